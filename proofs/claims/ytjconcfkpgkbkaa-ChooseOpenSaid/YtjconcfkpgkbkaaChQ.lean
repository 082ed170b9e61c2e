/- Contracts: the reference of layer 27: Span, times, Fits; Span is what open returns. -/
import Derived.Test.YtjconcfkpgkbkaaChP
namespace Go.Proofs.Ytjconcfkpgkbkaa.choose
open Go Go.En
set_option linter.unusedVariables false

/-- From entry to entry, from the one at i on: how long until a mask does not have it. -/
def wk (es : List Ent) (has : Int → Bool) (i : Nat) : Nat → Nat → Int → Option Int
  | 0, _, _ => none
  | r + 1, k, n => bif has (maskAt es ((i + k) % es.length)) then wk es has i r (k + 1) (n + longAt es ((i + k) % es.length)) else some n
def T63 (cls i n k : Int) : List Value := mkT 49 0 [(1, .int .i64 cls), (3, pt 1), (7, .int .i64 i), (9, .int .i64 n), (10, .int .i64 k)]
def TR63 (v : Int) : List Value := mkT 49 0 [(6, .int .i64 v)]
def TX63 : List Value := mkT 49 0 []
section
variable {es : List Ent} {c : Nat} {cyc cls : Int}
theorem p_go (hcls : 0 ≤ cls) (h7 : cls ≤ 7) (h1000 : es.length ≤ 1000) {i k : Nat} (hi : i < es.length) (hk : k < es.length) {n : Int} {q : Bool} (hq : bitR cls (maskAt es ((i + k) % es.length)) = q) :
    CodeOk Try.prog none (lp Try.prog 63 4) (T63 cls i n k) [] (H29 es c cyc) 2 (bif q then ⟨.normal, T63 cls i (W (n + longAt es ((i + k) % es.length))) (W (k + 1)), [], H29 es c cyc, 2⟩ else ⟨.ret, TR63 (max n 0), [], H29 es c cyc, 2⟩) := by
  have hj : (i + k) % es.length < es.length := Nat.mod_lt _ (by omega)
  have l1 := ld59 (ro := true) (at_some hj)
  have hd : decide ((k : Int) < es.length) = true := decide_eq_true (by omega)
  have w1 : W ((i : Int) + k) = ((i + k : Nat) : Int) := by rw [show (i : Int) + k = ((i + k : Nat) : Int) by push_cast; rfl]; exact wrap_nat (by omega)
  have b := fun xo yo => rem_bin (P := Try.prog) (t := 3) (k := .i64) (a := ((i + k : Nat) : Int)) (b := (es.length : Int)) (by omega) xo yo
  rw [← Int.ofNat_tmod] at b
  have mb := bit_m hcls h7 (maskAt es ((i + k) % es.length)) hq 5
  have hmx : (if (0 : Int) > n then 0 else n) = max n 0 := by split <;> omega
  unfold maskAt at mb
  unfold longAt
  generalize es.getD ((i + k) % es.length) ⟨0, 0⟩ = x at l1 mb ⊢
  obtain ⟨m, g⟩ := x
  cases q
  · exact code_at (hs := [(24, .val (.bool (decide ((k : Int) < es.length))) (.bool true)), (31, .val (.int .i64 (W ((i : Int) + k))) (.int .i64 (i + k : Nat))), (35, .bin .rem 3 _ _ _), (36, .ix 22 (esl es.length c) (.int .i64 ((i + k) % es.length : Nat)) _), (37, .ld 59 _ 0 (ecs es) true _), (41, .call _), (44, .val (.int .i64 (if (0 : Int) > n then 0 else n)) (.int .i64 (max n 0)))]) (ch := []) (evk 50) special
      ⟨congrArg Value.bool hd, congrArg (Value.int .i64) w1, b, ix22 hj, ⟨l1, _, rfl⟩, mb, congrArg (Value.int .i64) hmx, trivial⟩ trivial (by kernel_rfl) (H29_below es c cyc (by omega)) (H29_below es c cyc (by omega)) (by kernel_rfl)
  · exact code_at (hs := [(24, .val (.bool (decide ((k : Int) < es.length))) (.bool true)), (31, .val (.int .i64 (W ((i : Int) + k))) (.int .i64 (i + k : Nat))), (35, .bin .rem 3 _ _ _), (36, .ix 22 (esl es.length c) (.int .i64 ((i + k) % es.length : Nat)) _), (37, .ld 59 _ 0 (ecs es) true _), (41, .call _)]) (ch := []) (evk 50) special
      ⟨congrArg Value.bool hd, congrArg (Value.int .i64) w1, b, ix22 hj, ⟨l1, _, rfl⟩, mb, trivial⟩ trivial (by kernel_rfl) (H29_below es c cyc (by omega)) (H29_below es c cyc (by omega)) (by kernel_rfl)
theorem p_out {i n : Int} : CodeOk Try.prog none (lp Try.prog 63 4) (T63 cls i n es.length) [] (H29 es c cyc) 2 ⟨.exit 0, TX63, [], H29 es c cyc, 2⟩ := by
  have hd : decide ((es.length : Int) < es.length) = false := decide_eq_false (by omega)
  exact code_at (hs := [(24, .val (.bool (decide ((es.length : Int) < es.length))) (.bool false))]) (ch := []) (evk 50) special ⟨congrArg Value.bool hd, trivial⟩ trivial (by kernel_rfl) (H29_below es c cyc (by omega)) (H29_below es c cyc (by omega)) (by kernel_rfl)
def F63 (es : List Ent) (c : Nat) (cyc : Int) : Option Int → Res
  | none => ⟨.exit 0, TX63, [], H29 es c cyc, 2⟩
  | some s => ⟨.ret, TR63 (max s 0), [], H29 es c cyc, 2⟩
theorem p_loop (hcls : 0 ≤ cls) (h7 : cls ≤ 7) (hG : Good es cyc) {i : Nat} (hi : i < es.length) : ∀ (r k : Nat) (n : Int), k + r = es.length → -9600000 ≤ n → n ≤ 9600000 * k →
    LoopOk Try.prog none (lp Try.prog 63 4) (T63 cls i n k) [] (H29 es c cyc) 2 (F63 es c cyc (wk es (bitR cls) i r k n))
  | 0, k, n, h, _, _ => by
    have : k = es.length := by omega
    subst this
    exact loopOk_out p_out (by show Exit.exit 0 ≠ Exit.normal; simp)
  | r + 1, k, n, h, h1, h2 => by
    have h128 := hG.n128
    have hj : (i + k) % es.length < es.length := Nat.mod_lt _ (by omega)
    have hl := long_ok hG hj
    simp only [wk]
    cases hq : bitR cls (maskAt es ((i + k) % es.length)) with
    | false => exact loopOk_out (p_go hcls h7 (by omega) hi (by omega) hq) (by show Exit.ret ≠ Exit.normal; simp)
    | true =>
      have h5 := p_go (c := c) (cyc := cyc) hcls h7 (by omega) hi (by omega) (n := n) hq
      simp only [cond_true] at h5
      rw [W_id (a := n + longAt es ((i + k) % es.length)) (by omega), show (k : Int) + 1 = ((k + 1 : Nat) : Int) by push_cast; rfl, show W ((k + 1 : Nat) : Int) = ((k + 1 : Nat) : Int) from wrap_nat (by omega)] at h5
      exact loop_step h5 (p_loop hcls h7 hG hi r (k + 1) _ (by omega) (by omega) (by push_cast; omega))
termination_by r => r
def spanO (es : List Ent) (cls t cyc : Int) : Option Int := wk es (bitR cls) (atS es t cyc).1 es.length 0 (-(atS es t cyc).2)
def spanV : Option Int → Int
  | none => 1099511627776
  | some s => max s 0
theorem atS_le (hG : Good es cyc) (t : Int) : (atS es t cyc).2 ≤ 9600000 := by
  obtain ⟨a1, a2, a3, a4, a5⟩ := atS_ok hG t
  have := long_ok hG a2
  omega
theorem span_0 (hcls : 0 ≤ cls) (h7 : cls ≤ 7) (hG : Good es cyc) (t : Int) : Memo.Ok Try.prog ⟨63, 1, [gv es.length c cyc, .int .i64 cls, .int .i64 t], [(0, ecs es)], .int .i64 (spanV (spanO es cls t cyc)), [], 1⟩ := by
  have hS : En.smallH 1 [(0, ecs es)] = true := by simp [En.smallH, small_avL (ecs_av es)]
  have ma := at_m (c := c) hG t 2
  obtain ⟨a1, a2, a3, a4, a5⟩ := atS_ok hG t
  have a6 := atS_le hG t
  have hlo := p_loop (c := c) hcls h7 hG a2 es.length 0 (-(atS es t cyc).2) (by omega) (by omega) (by omega)
  have w1 : W (0 - (atS es t cyc).2) = -(atS es t cyc).2 := by rw [W_id (by omega)]; omega
  unfold spanO
  generalize wk es (bitR cls) (atS es t cyc).1 es.length 0 (-(atS es t cyc).2) = o at hlo ⊢
  generalize atS es t cyc = p at ma hlo w1
  cases o <;>
    exact memo_pure (hs := [(3, .frz), (15, .call _), (19, .val (.int .i64 (W (0 - p.2))) (.int .i64 (-p.2)))]) (ch := [⟨4, none, .loop (lp Try.prog 63 4), T63 cls p.1 (-p.2) 0, [], H29 es c cyc, 2, _, true⟩]) 2 (evk 50) special ⟨trivial, ma, congrArg (Value.int .i64) w1, trivial⟩ ⟨codeOk_loop hlo, trivial⟩ (by kernel_rfl) hS (by kernel_rfl)
/-! ### Span is open -/
theorem strO_wk {has : Int → Bool} {i : Nat} : ∀ (r k : Nat) (n : Int), strO es has r ((i + k) % es.length) (longAt es ((i + k) % es.length)) n = wk es has i r k n
  | 0, k, n => rfl
  | r + 1, k, n => by
    simp only [strO, wk]
    have e : ((i + k) % es.length + 1) % es.length = (i + (k + 1)) % es.length := by rw [Nat.mod_add_mod]; rfl
    rw [e, strO_wk r (k + 1) _]
theorem wk_more {has : Int → Bool} {i : Nat} : ∀ {r k : Nat} {n s : Int}, wk es has i r k n = some s → wk es has i (r + 1) k n = some s
  | 0, k, n, s, h => by cases h
  | r + 1, k, n, s, h => by
    rw [wk] at h ⊢
    cases hq : has (maskAt es ((i + k) % es.length)) with
    | true => rw [hq] at h; exact wk_more h
    | false => rw [hq] at h; exact h
theorem wk_all {has : Int → Bool} {i : Nat} : ∀ {r k : Nat} {n : Int}, wk es has i r k n = none → has (maskAt es ((i + (k + r)) % es.length)) = true → wk es has i (r + 1) k n = none
  | 0, k, n, h, h2 => by simp only [Nat.add_zero] at h2; simp only [wk, h2, cond_true]
  | r + 1, k, n, h, h2 => by
    rw [wk] at h ⊢
    cases hq : has (maskAt es ((i + k) % es.length)) with
    | false => rw [hq] at h; cases h
    | true =>
      rw [hq] at h
      exact wk_all (r := r) (k := k + 1) h (by rw [show k + 1 + r = k + (r + 1) by omega]; exact h2)
/-- The sum of the entries from the one at i on. -/
def psum (es : List Ent) (i : Nat) : Nat → Int
  | 0 => 0
  | k + 1 => psum es i k + longAt es ((i + k) % es.length)
theorem wk_psum {has : Int → Bool} {i : Nat} : ∀ {r k : Nat} {n s : Int}, wk es has i r k n = some s → ∃ j, k ≤ j ∧ j < k + r ∧ s = n + psum es i j - psum es i k ∧ has (maskAt es ((i + j) % es.length)) = false
  | 0, k, n, s, h => by cases h
  | r + 1, k, n, s, h => by
    rw [wk] at h
    cases hq : has (maskAt es ((i + k) % es.length)) with
    | true =>
      rw [hq] at h
      obtain ⟨j, h1, h2, h3, h4⟩ := wk_psum (r := r) (k := k + 1) h
      exact ⟨j, by omega, by omega, by simp only [psum] at h3; omega, h4⟩
    | false =>
      rw [hq] at h
      simp only [cond_false, Option.some.injEq] at h
      exact ⟨k, by omega, by omega, by omega, hq⟩
theorem psum_mono (hG : Good es cyc) {i j : Nat} : ∀ {k : Nat}, j ≤ k → psum es i j ≤ psum es i k
  | 0, h => by have : j = 0 := by omega
               subst this; exact Int.le_refl _
  | k + 1, h => by
    by_cases hj : j = k + 1
    · subst hj; exact Int.le_refl _
    · have := psum_mono hG (i := i) (j := j) (k := k) (by omega)
      have hl := long_ok hG (Nat.mod_lt (i + k) (by have := hG.n1; omega))
      simp only [psum]
      omega
theorem lsum_app : ∀ (a b : List Ent), lsum (a ++ b) = lsum a + lsum b
  | [], b => by simp [lsum]
  | x :: a, b => by simp only [List.cons_append, lsum, lsum_app a b]; omega
theorem psum_low {i : Nat} (hi : i ≤ es.length) : ∀ {k : Nat}, i + k ≤ es.length → psum es i k = lsum ((es.drop i).take k)
  | 0, _ => by simp [psum, lsum]
  | k + 1, h => by
    have hlt : i + k < es.length := by omega
    simp only [psum]
    rw [psum_low hi (k := k) (by omega), Nat.mod_eq_of_lt hlt]
    have : (es.drop i).take (k + 1) = (es.drop i).take k ++ [es[i + k]] := by
      rw [List.take_succ_eq_append_getElem (by simp; omega)]
      simp
    rw [this, lsum_app]
    simp only [lsum, longAt, List.getD_eq_getElem?_getD, List.getElem?_eq_getElem hlt, Option.getD_some]
    omega
theorem psum_wrap {i : Nat} (hi : i < es.length) : ∀ {k : Nat}, k ≤ i → psum es i (es.length - i + k) = lsum (es.drop i) + lsum (es.take k)
  | 0, _ => by
    rw [Nat.add_zero, psum_low (by omega) (by omega), List.take_of_length_le (by simp)]
    simp [lsum]
  | k + 1, h => by
    rw [show es.length - i + (k + 1) = es.length - i + k + 1 by omega]
    simp only [psum]
    rw [psum_wrap hi (k := k) (by omega)]
    have e : (i + (es.length - i + k)) % es.length = k := by
      rw [show i + (es.length - i + k) = k + es.length by omega, Nat.add_mod_right, Nat.mod_eq_of_lt (by omega)]
    rw [e]
    have hlt : k < es.length := by omega
    rw [List.take_succ_eq_append_getElem hlt, lsum_app]
    simp only [lsum, longAt, List.getD_eq_getElem?_getD, List.getElem?_eq_getElem hlt, Option.getD_some]
    omega
theorem psum_full (hG : Good es cyc) {i : Nat} (hi : i < es.length) : psum es i es.length = cyc := by
  have := psum_wrap (es := es) hi (k := i) (Nat.le_refl i)
  rw [show es.length - i + i = es.length by omega] at this
  rw [this, ← hG.sum, Int.add_comm, ← lsum_app, List.take_append_drop]
theorem has_congr {has has' : Int → Bool} {i : Nat} (h : ∀ j, has (maskAt es (j % es.length)) = has' (maskAt es (j % es.length))) : ∀ (r k : Nat) (n : Int), wk es has i r k n = wk es has' i r k n
  | 0, k, n => rfl
  | r + 1, k, n => by simp only [wk]; rw [h, has_congr h r]
theorem span_open (hcls : 0 ≤ cls) (hG : Good es cyc) (t : Int) : spanV (spanO es cls t cyc) = openN es cls t cyc ∧ 0 ≤ openN es cls t cyc := by
  obtain ⟨a1, a2, a3, a4, a5⟩ := atS_ok hG t
  have hn1 := hG.n1
  have hhas : ∀ j, bitR cls (maskAt es (j % es.length)) = hasG 70 cls (maskAt es (j % es.length)) := by
    intro j
    have hm := hG.at (at_some (Nat.mod_lt j (show 0 < es.length by omega)))
    have : hasG 70 cls (maskAt es (j % es.length)) = openS cls (maskAt es (j % es.length)) := by simp [hasG]
    rw [this]; exact (bit_eq hm.1 hm.2.1).symm
  have hi0 : ((atS es t cyc).1 + 0) % es.length = (atS es t cyc).1 := by rw [Nat.add_zero, Nat.mod_eq_of_lt a2]
  obtain ⟨L, hL⟩ : ∃ L, es.length = L + 1 := ⟨es.length - 1, by omega⟩
  have hfull := psum_full hG a2
  unfold openN strS spanO
  rw [has_congr hhas]
  rw [a1, a4]
  generalize (atS es t cyc).1 = i at *
  generalize (atS es t cyc).2 = s at *
  have hpos : ∀ j, i ≤ j → 0 ≤ longAt es (j % es.length) := fun j _ => by have := long_ok hG (Nat.mod_lt j (show 0 < es.length by omega)); omega
  cases hq : hasG 70 cls (maskAt es i) with
  | false =>
    have e1 : strO es (hasG 70 cls) (es.length + 1) i (longAt es i - s) 0 = some 0 := by simp only [strO, hq, cond_false]
    have e2 : wk es (hasG 70 cls) i es.length 0 (-s) = some (-s) := by rw [hL]; simp only [wk, hi0, hq, cond_false]
    rw [e1, e2]
    simp only [Option.getD_some, spanV]
    have hne : ((0 : Int) == cyc) = false := by have := hG.pos; rw [beq_eq_false_iff_ne]; omega
    rw [hne]
    simp only [cond_false]
    omega
  | true =>
    have e1 : strO es (hasG 70 cls) (es.length + 1) i (longAt es i - s) 0 = wk es (hasG 70 cls) i es.length 1 (longAt es i - s) := by
      simp only [strO, hq, cond_true, Int.zero_add]
      exact strO_wk (i := i) es.length 1 _
    have e2 : wk es (hasG 70 cls) i es.length 0 (-s) = wk es (hasG 70 cls) i L 1 (longAt es i - s) := by
      rw [hL]
      simp only [wk, hi0, hq, cond_true]
      rw [Int.add_comm, ← Int.sub_eq_add_neg]
    rw [e1, e2]
    cases hw : wk es (hasG 70 cls) i L 1 (longAt es i - s) with
    | none =>
      have : wk es (hasG 70 cls) i es.length 1 (longAt es i - s) = none := by
        rw [hL]
        refine wk_all hw ?_
        rw [show 1 + L = es.length by omega, Nat.add_mod_right, Nat.mod_eq_of_lt a2]
        exact hq
      rw [this]
      simp [spanV]
    | some n =>
      have : wk es (hasG 70 cls) i es.length 1 (longAt es i - s) = some n := by rw [hL]; exact wk_more hw
      rw [this]
      obtain ⟨j, h1, h2, h3, h4⟩ := wk_psum hw
      have p1 : psum es i 1 = longAt es i := by simp only [psum, hi0]; omega
      have m1 := psum_mono hG (i := i) (j := 1) (k := j) h1
      have m2 := psum_mono hG (i := i) (j := j + 1) (k := es.length) (by omega)
      have hl := long_ok hG (Nat.mod_lt (i + j) (show 0 < es.length by omega))
      simp only [psum] at m2
      have hne : (n == cyc) = false := by rw [beq_eq_false_iff_ne]; omega
      simp only [Option.getD_some, spanV, hne, cond_false]
      omega
theorem span_m (hcls : 0 ≤ cls) (h7 : cls ≤ 7) (hG : Good es cyc) (t : Int) {v : Int} (hv : openN es cls t cyc = v) (nx : Nat) : Memo.Ok Try.prog ⟨63, nx, [gv es.length c cyc, .int .i64 cls, .int .i64 t], [(0, ecs es)], .int .i64 v, [], nx⟩ := by
  have := span_0 (c := c) hcls h7 hG t
  rw [(span_open hcls hG t).1, hv] at this
  exact memo_blk this (ecs_av es) 0 nx (by kernel_rfl) rfl rfl
end
end Go.Proofs.Ytjconcfkpgkbkaa.choose
