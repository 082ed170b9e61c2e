/- Contracts: the reference of layer 27: At, Bit, Span. -/
import Derived.Test.YtjconcfkpgkbkaaChO
namespace Go.Proofs.Ytjconcfkpgkbkaa.choose
open Go Go.En
set_option linter.unusedVariables false

/-! ### At -/
def phR (t cyc : Int) : Int := bif decide (Int.tmod t cyc < 0) then W (Int.tmod t cyc + cyc) else Int.tmod t cyc
theorem ph_eq {t cyc : Int} (h1 : 1 ≤ cyc) (h2 : cyc ≤ 9600000) : phR t cyc = ph t cyc := by
  have a1 := Int.tmod_lt_of_pos t (show 0 < cyc by omega)
  have a2 : -cyc < Int.tmod t cyc := by
    have h3 := Int.lt_tmod_of_pos t (show 0 < cyc by omega)
    omega
  have hw : W (Int.tmod t cyc + cyc) = Int.tmod t cyc + cyc := W_id (by omega)
  unfold ph phR
  rw [hw]
  clear hw
  generalize Int.tmod t cyc = a at a1 a2
  cases hq : decide (a < 0) with
  | true =>
    simp only [decide_eq_true_eq] at hq
    simp only [cond_true]
    rw [Int.tmod_eq_of_lt (by omega) (by omega)]
  | false =>
    simp only [decide_eq_false_iff_not] at hq
    simp only [cond_false]
    rw [Int.tmod_eq_emod_of_nonneg (by omega), Int.add_emod_right, Int.emod_eq_of_lt (by omega) a1]
def atP : List Ent → Int → Nat → Nat × Int
  | [], r, i => (i, r)
  | e :: l, r, i => bif decide (r ≥ e.long) then atP l (r - e.long) (i + 1) else (i, r)
def T68 (r i : Int) : List Value := mkT 38 0 [(2, pt 1), (6, .int .i64 r), (7, .int .i64 i)]
def TR68 (r i : Int) : List Value := mkT 38 0 [(6, .int .i64 r), (7, .int .i64 i)]
section
variable {es : List Ent} {c : Nat} {cyc : Int}
theorem a_go {r : Int} {i : Nat} {x : Ent} (hi : es[i]? = some x) {q : Bool} (hq : decide (r ≥ x.long) = q) :
    CodeOk Try.prog none (lp Try.prog 68 5) (T68 r i) [] (H29 es c cyc) 2 (bif q then ⟨.normal, T68 (W (r - x.long)) (W (i + 1)), [], H29 es c cyc, 2⟩ else ⟨.exit 0, TR68 r i, [], H29 es c cyc, 2⟩) := by
  have hlt := lt_of hi
  have l1 := ldG (ro := true) hi
  obtain ⟨m, g⟩ := x
  cases q
  · exact code_at (hs := [(22, .ix 22 (esl es.length c) (.int .i64 i) _), (24, .ld 3 _ 0 (ecs es) true _), (25, .val (.bool (decide (r ≥ g))) (.bool _))]) (ch := []) (evk 50) special
      ⟨ix22 hlt, ⟨l1, _, rfl⟩, congrArg Value.bool hq, trivial⟩ trivial (by kernel_rfl) (H29_below es c cyc (by omega)) (H29_below es c cyc (by omega)) (by kernel_rfl)
  · exact code_at (hs := [(22, .ix 22 (esl es.length c) (.int .i64 i) _), (24, .ld 3 _ 0 (ecs es) true _), (25, .val (.bool (decide (r ≥ g))) (.bool _)), (30, .ix 22 (esl es.length c) (.int .i64 i) _), (32, .ld 3 _ 0 (ecs es) true _)]) (ch := []) (evk 50) special
      ⟨ix22 hlt, ⟨l1, _, rfl⟩, congrArg Value.bool hq, ix22 hlt, ⟨l1, _, rfl⟩, trivial⟩ trivial (by kernel_rfl) (H29_below es c cyc (by omega)) (H29_below es c cyc (by omega)) (by kernel_rfl)
def F68 (es : List Ent) (c : Nat) (cyc : Int) (p : Nat × Int) : Res := ⟨.exit 0, TR68 p.2 p.1, [], H29 es c cyc, 2⟩
theorem a_loop (hG : Good es cyc) : ∀ (k i : Nat) (r : Int), i + k = es.length → 0 ≤ r → r < lsum (es.drop i) → r ≤ 9600000 → LoopOk Try.prog none (lp Try.prog 68 5) (T68 r i) [] (H29 es c cyc) 2 (F68 es c cyc (atP (es.drop i) r i))
  | 0, i, r, h, h0, hs, _ => by
    rw [List.drop_eq_nil_of_le (by omega)] at hs
    simp only [lsum] at hs
    omega
  | k + 1, i, r, h, h0, hs, hr => by
    have hlt : i < es.length := by omega
    have hi : es[i]? = some es[i] := List.getElem?_eq_getElem hlt
    have hx := hG.at hi
    have h128 := hG.n128
    rw [lsum_drop hlt] at hs
    rw [List.drop_eq_getElem_cons hlt]
    simp only [atP]
    cases hq : decide (r ≥ es[i].long) with
    | false =>
      have h1 := a_go (c := c) (cyc := cyc) hi hq
      simp only [cond_false] at h1 ⊢
      exact loopOk_out h1 (by show Exit.exit 0 ≠ Exit.normal; simp)
    | true =>
      have h1 := a_go (c := c) (cyc := cyc) hi hq
      simp only [decide_eq_true_eq] at hq
      simp only [cond_true] at h1 ⊢
      rw [W_id (a := r - es[i].long) (by omega), show (i : Int) + 1 = ((i + 1 : Nat) : Int) by push_cast; rfl, show W ((i + 1 : Nat) : Int) = ((i + 1 : Nat) : Int) from wrap_nat (by omega)] at h1
      exact loop_step h1 (a_loop hG k (i + 1) _ (by omega) (by omega) (by omega) (by omega))
termination_by k => k
def atS (es : List Ent) (t cyc : Int) : Nat × Int := atP es (phR t cyc) 0
theorem at_0 (hG : Good es cyc) (t : Int) : Memo.Ok Try.prog ⟨68, 1, [gv es.length c cyc, .int .i64 t], [(0, ecs es)], .tuple #[.int .i64 (atS es t cyc).1, .int .i64 (atS es t cyc).2], [], 1⟩ := by
  have hS : En.smallH 1 [(0, ecs es)] = true := by simp [En.smallH, small_avL (ecs_av es)]
  have hp := hG.pos
  have hr := ph_range (t := t) hG.pos hG.le
  rw [← ph_eq hG.pos hG.le] at hr
  have hlo := a_loop (c := c) hG es.length 0 (phR t cyc) (by omega) hr.1 (by rw [List.drop_zero, hG.sum]; exact hr.2) (by have := hG.le; omega)
  rw [List.drop_zero] at hlo
  have b1 := fun xo yo => rem_bin (P := Try.prog) (t := 3) (k := .i64) (a := t) (b := cyc) (by omega) xo yo
  unfold atS
  generalize atP es (phR t cyc) 0 = p at hlo ⊢
  unfold phR at hlo
  cases hq : decide (Int.tmod t cyc < 0) with
  | false =>
    rw [hq] at hlo
    simp only [cond_false] at hlo
    exact memo_pure (hs := [(2, .frz), (11, .bin .rem 3 _ _ _), (13, .val (.bool (decide (Int.tmod t cyc < 0))) (.bool false))]) (ch := [⟨5, none, .loop (lp Try.prog 68 5), T68 (Int.tmod t cyc) 0, [], H29 es c cyc, 2, _, true⟩]) 2 (evk 50) special ⟨trivial, b1, congrArg Value.bool hq, trivial⟩ ⟨codeOk_loop hlo, trivial⟩ (by kernel_rfl) hS (by kernel_rfl)
  | true =>
    rw [hq] at hlo
    simp only [cond_true] at hlo
    exact memo_pure (hs := [(2, .frz), (11, .bin .rem 3 _ _ _), (13, .val (.bool (decide (Int.tmod t cyc < 0))) (.bool true))]) (ch := [⟨5, none, .loop (lp Try.prog 68 5), T68 (W (Int.tmod t cyc + cyc)) 0, [], H29 es c cyc, 2, _, true⟩]) 2 (evk 50) special ⟨trivial, b1, congrArg Value.bool hq, trivial⟩ ⟨codeOk_loop hlo, trivial⟩ (by kernel_rfl) hS (by kernel_rfl)
theorem at_m (hG : Good es cyc) (t : Int) (nx : Nat) : Memo.Ok Try.prog ⟨68, nx, [gv es.length c cyc, .int .i64 t], [(0, ecs es)], .tuple #[.int .i64 (atS es t cyc).1, .int .i64 (atS es t cyc).2], [], nx⟩ :=
  memo_blk (at_0 hG t) (ecs_av es) 0 nx (by kernel_rfl) rfl rfl
theorem at_find : ∀ {es : List Ent} {r : Int} {i : Nat}, (∀ e ∈ es, entOk e = true) → 0 ≤ r → r < lsum es →
    (findP es r i).1 = (atP es r i).1 ∧ i ≤ (atP es r i).1 ∧ (atP es r i).1 < i + es.length ∧ 0 ≤ (atP es r i).2 ∧ (findP es r i).2 = longAt es ((atP es r i).1 - i) - (atP es r i).2 ∧ 1 ≤ (findP es r i).2
  | [], r, i, _, h0, h1 => by simp only [lsum] at h1; omega
  | e :: es, r, i, hok, h0, h1 => by
    have he := entOk_iff.1 (hok e (by simp))
    simp only [lsum] at h1
    simp only [findP, atP, List.length_cons]
    cases hq : decide (r ≥ e.long) with
    | true =>
      simp only [decide_eq_true_eq] at hq
      obtain ⟨a1, a2, a3, a4, a5, a6⟩ := at_find (es := es) (r := r - e.long) (i := i + 1) (fun x hx => hok x (by simp [hx])) (by omega) (by omega)
      simp only [cond_true]
      refine ⟨a1, by omega, by omega, a4, ?_, a6⟩
      rw [a5]
      unfold longAt
      rw [show (atP es (r - e.long) (i + 1)).1 - i = (atP es (r - e.long) (i + 1)).1 - (i + 1) + 1 by omega, List.getD_cons_succ]
    | false =>
      simp only [decide_eq_false_iff_not] at hq
      simp only [cond_false]
      refine ⟨trivial, by omega, by omega, h0, ?_, by omega⟩
      simp [longAt]
theorem atS_ok (hG : Good es cyc) (t : Int) : (findS es t cyc).1 = (atS es t cyc).1 ∧ (atS es t cyc).1 < es.length ∧ 0 ≤ (atS es t cyc).2 ∧ (findS es t cyc).2 = longAt es (atS es t cyc).1 - (atS es t cyc).2 ∧ 1 ≤ (findS es t cyc).2 := by
  have hp := ph_range (t := t) hG.pos hG.le
  have hs := hG.sum
  obtain ⟨a1, a2, a3, a4, a5, a6⟩ := at_find (i := 0) hG.ok hp.1 (by omega)
  unfold findS atS
  rw [ph_eq hG.pos hG.le]
  exact ⟨a1, by omega, a4, by simpa using a5, a6⟩
end
/-! ### Bit -/
def bitR (cls m : Int) : Bool := Int.tmod (m.fdiv (2 ^ (min cls.toNat IntKind.i64.bits))) 2 == 1
theorem bit_m {cls : Int} (h : 0 ≤ cls) (h7 : cls ≤ 7) (m : Int) {p : Bool} (hp : bitR cls m = p) (nx : Nat) : Memo.Ok Try.prog ⟨69, nx, [.int .i64 m, .int .i64 cls], [], .bool p, [], nx⟩ := by
  have b := fun xo yo => shr_bin (P := Try.prog) (t := 3) (k := .i64) (k' := .u64) (a := m) h xo yo
  have hw : IntKind.u64.wrap cls = cls := by
    simp only [IntKind.wrap, IntKind.signed, IntKind.bits]
    simp
    omega
  have : Memo.Ok Try.prog ⟨69, 0, [.int .i64 m, .int .i64 cls], [], .bool (bitR cls m), [], 0⟩ :=
    memo_pure (hs := [(7, .val (.int .u64 (IntKind.u64.wrap cls)) (.int .u64 cls)), (8, .bin .shr 3 _ _ _)]) (ch := []) 0 (evk 50) special ⟨congrArg (Value.int .u64) hw, b, trivial⟩ trivial (by kernel_rfl) rfl (by kernel_rfl)
  exact memo_any (hp ▸ this) nx (by kernel_rfl) rfl rfl
theorem bit_eq {cls m : Int} (hm : 0 ≤ m) (hm2 : m ≤ 255) : openS cls m = bitR cls m := by
  unfold openS bitS bitR andS
  generalize hy : m.fdiv (2 ^ (min cls.toNat IntKind.i64.bits)) = y
  have hpos : (0 : Int) < 2 ^ (min cls.toNat IntKind.i64.bits) := Int.pow_pos (by omega)
  have y0 : 0 ≤ y := by rw [← hy]; exact Int.fdiv_nonneg hm (by omega)
  have y1 : y ≤ m := by
    rw [← hy, Int.fdiv_eq_ediv_of_nonneg _ (by omega)]
    exact Int.ediv_le_self _ hm
  obtain ⟨n, rfl⟩ : ∃ n : Nat, y = n := ⟨y.toNat, by omega⟩
  have e1 : (BitVec.ofInt IntKind.i64.bits (n : Int) &&& BitVec.ofInt IntKind.i64.bits 1).toNat = n % 2 := by
    rw [BitVec.toNat_and, BitVec.toNat_ofInt, BitVec.toNat_ofInt]
    have : ((n : Int) % (2 ^ IntKind.i64.bits : Nat)).toNat = n := by
      simp only [IntKind.bits]
      omega
    rw [this]
    have : ((1 : Int) % (2 ^ IntKind.i64.bits : Nat)).toNat = 1 := by
      simp only [IntKind.bits]
      decide
    rw [this, Nat.and_one_is_mod]
  rw [e1]
  have e2 : Int.tmod (n : Int) 2 = ((n % 2 : Nat) : Int) := by
    rw [Int.tmod_eq_emod_of_nonneg (by omega)]
    omega
  rw [e2, wrap_nat (by omega)]
end Go.Proofs.Ytjconcfkpgkbkaa.choose
