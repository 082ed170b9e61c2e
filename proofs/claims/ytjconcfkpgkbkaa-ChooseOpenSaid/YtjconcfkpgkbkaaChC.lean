/- Contracts: gates (layer 27): find. -/
import Derived.Test.YtjconcfkpgkbkaaChB
namespace Go.Proofs.Ytjconcfkpgkbkaa.choose
open Go Go.En
set_option linter.unusedVariables false

/-! ### What a valid list is -/
def lsum : List Ent → Int
  | [] => 0
  | e :: r => e.long + lsum r
theorem entOk_iff {e : Ent} : entOk e = true ↔ 0 ≤ e.mask ∧ e.mask ≤ 255 ∧ 1 ≤ e.long ∧ e.long ≤ 9600000 := by
  simp only [entOk, Bool.not_eq_true', Bool.or_eq_false_iff, decide_eq_false_iff_not]
  omega
theorem sumG_some : ∀ {es : List Ent} {s r : Int}, 0 ≤ s → s + 9600000 * es.length ≤ 9000000000000000 → sumG es s = some r → (∀ e ∈ es, entOk e = true) ∧ r = s + lsum es
  | [], s, r, _, _, h => by simp only [sumG, Option.some.injEq] at h; simp [lsum, h]
  | e :: es, s, r, h0, hb, h => by
    simp only [sumG] at h
    cases he : entOk e with
    | false => rw [he] at h; cases h
    | true =>
      rw [he] at h
      simp only [cond_true] at h
      obtain ⟨h1, h2, h3, h4⟩ := entOk_iff.1 he
      simp only [List.length_cons] at hb
      push_cast at hb
      rw [W_id (a := s + e.long) (by omega)] at h
      obtain ⟨g1, g2⟩ := sumG_some (es := es) (by omega) (by omega) h
      refine ⟨fun x hx => ?_, by simp only [lsum]; omega⟩
      rcases List.mem_cons.1 hx with rfl | hx
      · exact he
      · exact g1 x hx
structure Good (es : List Ent) (cyc : Int) : Prop where
  n1 : 1 ≤ es.length
  n128 : es.length ≤ 128
  ok : ∀ e ∈ es, entOk e = true
  sum : lsum es = cyc
  le : cyc ≤ 9600000
theorem good_of {es : List Ent} {cyc : Int} (h : chkG es cyc = true) : Good es cyc := by
  simp only [chkG, Bool.and_eq_true, Bool.not_eq_true', Bool.or_eq_false_iff, decide_eq_false_iff_not] at h
  obtain ⟨⟨h1, h2⟩, h3⟩ := h
  cases hs : sumG es 0 with
  | none => rw [hs] at h3; cases h3
  | some s =>
    rw [hs] at h3
    simp only [fitG, Bool.not_eq_true', Bool.or_eq_false_iff, decide_eq_false_iff_not, bne_eq_false_iff_eq] at h3
    obtain ⟨g1, g2⟩ := sumG_some (Int.le_refl 0) (by omega) hs
    exact ⟨by omega, by omega, g1, by omega, by omega⟩
theorem lsum_ge : ∀ {es : List Ent}, (∀ e ∈ es, entOk e = true) → (es.length : Int) ≤ lsum es
  | [], _ => by simp [lsum]
  | e :: es, h => by
    have h1 := entOk_iff.1 (h e (by simp))
    have h2 := lsum_ge (es := es) fun x hx => h x (by simp [hx])
    simp only [lsum, List.length_cons]
    push_cast
    omega
theorem Good.pos {es : List Ent} {cyc : Int} (h : Good es cyc) : 1 ≤ cyc := by
  have := lsum_ge h.ok
  have := h.n1
  have := h.sum
  omega
theorem Good.at {es : List Ent} {cyc : Int} (h : Good es cyc) {i : Nat} {x : Ent} (hi : es[i]? = some x) : 0 ≤ x.mask ∧ x.mask ≤ 255 ∧ 1 ≤ x.long ∧ x.long ≤ 9600000 := entOk_iff.1 (h.ok x (List.mem_of_getElem? hi))

/-! ### find -/
def ph (t cyc : Int) : Int := Int.tmod (W (Int.tmod t cyc + cyc)) cyc
theorem ph_range {t cyc : Int} (h1 : 1 ≤ cyc) (h2 : cyc ≤ 9600000) : 0 ≤ ph t cyc ∧ ph t cyc < cyc := by
  have a1 := Int.tmod_lt_of_pos t (show 0 < cyc by omega)
  have a2 : -cyc < Int.tmod t cyc := by
    have h3 := Int.lt_tmod_of_pos t (show 0 < cyc by omega)
    omega
  have hw : W (Int.tmod t cyc + cyc) = Int.tmod t cyc + cyc := W_id (by omega)
  unfold ph
  rw [hw]
  exact ⟨Int.tmod_nonneg _ (by omega), Int.tmod_lt_of_pos _ (by omega)⟩
def findP : List Ent → Int → Nat → Nat × Int
  | [], _, i => (i, 0)
  | e :: r, t, i => bif decide (t ≥ e.long) then findP r (t - e.long) (i + 1) else (i, e.long - t)
def T71 (r i : Int) : List Value := [J, .int .i64 r, pt 1, J, .int .i64 i, .int .i64 0] ++ List.replicate 37 J
def TR71 (i l : Int) : List Value := [J, J, J, J, .int .i64 i, .int .i64 l] ++ List.replicate 37 J
section
variable {es : List Ent} {c : Nat} {cyc : Int}
theorem f_go {r : Int} {i : Nat} {x : Ent} (hi : es[i]? = some x) {q : Bool} (hq : decide (r ≥ x.long) = q) :
    CodeOk Try.prog none (after (scp Try.prog 71) 0) (T71 r i) [] (H29 es c cyc) 2 (bif q then ⟨.goto 0, T71 (W (r - x.long)) (W (i + 1)), [], H29 es c cyc, 2⟩ else ⟨.ret, TR71 i (W (x.long - r)), [], H29 es c cyc, 2⟩) := by
  have hlt := lt_of hi
  have l1 := ldG (ro := true) hi
  obtain ⟨m, g⟩ := x
  cases q
  · exact code_at (hs := [(20, .ix 22 (esl es.length c) (.int .i64 i) _), (22, .ld 3 _ 0 (ecs es) true _), (23, .val (.bool (decide (r ≥ g))) (.bool _)), (38, .ix 22 (esl es.length c) (.int .i64 i) _), (40, .ld 3 _ 0 (ecs es) true _)]) (ch := []) (evk 50) special
      ⟨ix22 hlt, ⟨l1, _, rfl⟩, congrArg Value.bool hq, ix22 hlt, ⟨l1, _, rfl⟩, trivial⟩ trivial (by kernel_rfl) (H29_below es c cyc (by omega)) (H29_below es c cyc (by omega)) (by kernel_rfl)
  · exact code_at (hs := [(20, .ix 22 (esl es.length c) (.int .i64 i) _), (22, .ld 3 _ 0 (ecs es) true _), (23, .val (.bool (decide (r ≥ g))) (.bool _)), (28, .ix 22 (esl es.length c) (.int .i64 i) _), (30, .ld 3 _ 0 (ecs es) true _)]) (ch := []) (evk 50) special
      ⟨ix22 hlt, ⟨l1, _, rfl⟩, congrArg Value.bool hq, ix22 hlt, ⟨l1, _, rfl⟩, trivial⟩ trivial (by kernel_rfl) (H29_below es c cyc (by omega)) (H29_below es c cyc (by omega)) (by kernel_rfl)
theorem f_st {t : Int} (h0 : cyc ≠ 0) {x : Ent} (hi : es[0]? = some x) {q : Bool} (hq : decide (ph t cyc ≥ x.long) = q) :
    CodeOk Try.prog none (scp Try.prog 71) (T71 t 0) [] (H29 es c cyc) 2 (bif q then ⟨.goto 0, T71 (W (ph t cyc - x.long)) 1, [], H29 es c cyc, 2⟩ else ⟨.ret, TR71 0 (W (x.long - ph t cyc)), [], H29 es c cyc, 2⟩) := by
  have hlt := lt_of hi
  have l1 := ldG (ro := true) hi
  have b1 := fun xo yo => rem_bin (P := Try.prog) (t := 3) (k := .i64) (a := t) h0 xo yo
  have b2 := fun xo yo => rem_bin (P := Try.prog) (t := 3) (k := .i64) (a := W (Int.tmod t cyc + cyc)) h0 xo yo
  obtain ⟨m, g⟩ := x
  cases q
  · exact code_at (hs := [(9, .bin .rem 3 _ _ _), (15, .bin .rem 3 _ _ _), (20, .ix 22 (esl es.length c) (.int .i64 (0 : Nat)) _), (22, .ld 3 _ 0 (ecs es) true _), (23, .val (.bool (decide (ph t cyc ≥ g))) (.bool _)), (38, .ix 22 (esl es.length c) (.int .i64 (0 : Nat)) _), (40, .ld 3 _ 0 (ecs es) true _)]) (ch := []) (evk 50) special
      ⟨b1, b2, ix22 hlt, ⟨l1, _, rfl⟩, congrArg Value.bool hq, ix22 hlt, ⟨l1, _, rfl⟩, trivial⟩ trivial (by kernel_rfl) (H29_below es c cyc (by omega)) (H29_below es c cyc (by omega)) (by kernel_rfl)
  · exact code_at (hs := [(9, .bin .rem 3 _ _ _), (15, .bin .rem 3 _ _ _), (20, .ix 22 (esl es.length c) (.int .i64 (0 : Nat)) _), (22, .ld 3 _ 0 (ecs es) true _), (23, .val (.bool (decide (ph t cyc ≥ g))) (.bool _)), (28, .ix 22 (esl es.length c) (.int .i64 (0 : Nat)) _), (30, .ld 3 _ 0 (ecs es) true _)]) (ch := []) (evk 50) special
      ⟨b1, b2, ix22 hlt, ⟨l1, _, rfl⟩, congrArg Value.bool hq, ix22 hlt, ⟨l1, _, rfl⟩, trivial⟩ trivial (by kernel_rfl) (H29_below es c cyc (by omega)) (H29_below es c cyc (by omega)) (by kernel_rfl)
def F71 (es : List Ent) (c : Nat) (cyc : Int) (p : Nat × Int) : Res := ⟨.ret, TR71 p.1 p.2, [], H29 es c cyc, 2⟩
theorem lsum_drop {es : List Ent} {i : Nat} (h : i < es.length) : lsum (es.drop i) = es[i].long + lsum (es.drop (i + 1)) := by
  rw [List.drop_eq_getElem_cons h]; rfl
theorem f_lbl : findLabel (scp Try.prog 71) 0 = some (after (scp Try.prog 71) 0) := by kernel_rfl
theorem f_scp (hG : Good es cyc) : ∀ (k i : Nat) (r : Int), i + k = es.length → 0 ≤ r → r < lsum (es.drop i) → r ≤ 9600000 → ScpOk Try.prog (scp Try.prog 71) (after (scp Try.prog 71) 0) (T71 r i) [] (H29 es c cyc) 2 (F71 es c cyc (findP (es.drop i) r i))
  | 0, i, r, h, h0, hs, _ => by
    rw [List.drop_eq_nil_of_le (by omega)] at hs
    simp only [lsum] at hs
    omega
  | k + 1, i, r, h, h0, hs, hr => by
    have hlt : i < es.length := by omega
    have hi : es[i]? = some es[i] := List.getElem?_eq_getElem hlt
    have hx := hG.at hi
    have h128 := hG.n128
    rw [lsum_drop hlt] at hs
    rw [List.drop_eq_getElem_cons hlt]
    simp only [findP]
    cases hq : decide (r ≥ es[i].long) with
    | false =>
      have h1 := f_go (c := c) (cyc := cyc) hi hq
      simp only [cond_false] at h1 ⊢
      rw [W_id (a := es[i].long - r) (by omega)] at h1
      exact scpOk_out h1 (fun l => by show Exit.ret ≠ Exit.goto l; simp)
    | true =>
      have h1 := f_go (c := c) (cyc := cyc) hi hq
      simp only [decide_eq_true_eq] at hq
      simp only [cond_true] at h1 ⊢
      rw [W_id (a := r - es[i].long) (by omega), show (i : Int) + 1 = ((i + 1 : Nat) : Int) by push_cast; rfl, show W ((i + 1 : Nat) : Int) = ((i + 1 : Nat) : Int) from wrap_nat (by omega)] at h1
      exact scpOk_jump h1 rfl f_lbl (f_scp hG k (i + 1) _ (by omega) (by omega) (by omega) (by omega))
termination_by k => k
theorem f_all (hG : Good es cyc) (t : Int) : ScpOk Try.prog (scp Try.prog 71) (scp Try.prog 71) (T71 t 0) [] (H29 es c cyc) 2 (F71 es c cyc (findP es (ph t cyc) 0)) := by
  have hp := hG.pos
  have hle := hG.le
  have h128 := hG.n128
  obtain ⟨p0, p1⟩ := ph_range (t := t) hp hle
  have hsum := hG.sum
  cases hes : es with
  | nil => have := hG.n1; rw [hes] at this; simp at this
  | cons e r =>
    rw [← hes]
    have hlt : 0 < es.length := hG.n1
    have hi : es[0]? = some e := by rw [hes]; rfl
    have hx := hG.at hi
    have hd : es.drop 1 = r := by rw [hes]; rfl
    have hl : lsum es = e.long + lsum r := by rw [hes]; rfl
    have hf : findP es (ph t cyc) 0 = bif decide (ph t cyc ≥ e.long) then findP r (ph t cyc - e.long) 1 else (0, e.long - ph t cyc) := by rw [hes]; rfl
    rw [hf]
    cases hq : decide (ph t cyc ≥ e.long) with
    | false =>
      have h1 := f_st (c := c) (t := t) (by omega) hi hq
      simp only [cond_false] at h1 ⊢
      rw [W_id (a := e.long - ph t cyc) (by omega)] at h1
      exact scpOk_out h1 (fun l => by show Exit.ret ≠ Exit.goto l; simp)
    | true =>
      have h1 := f_st (c := c) (t := t) (by omega) hi hq
      simp only [decide_eq_true_eq] at hq
      simp only [cond_true] at h1 ⊢
      rw [W_id (a := ph t cyc - e.long) (by omega)] at h1
      have h2 := f_scp (c := c) hG (es.length - 1) 1 (ph t cyc - e.long) (by omega) (by omega) (by rw [hd]; omega) (by omega)
      rw [hd] at h2
      exact scpOk_jump h1 rfl f_lbl h2
def findS (es : List Ent) (t cyc : Int) : Nat × Int := findP es (ph t cyc) 0
theorem find_0 (hG : Good es cyc) (t : Int) : Memo.Ok Try.prog ⟨71, 1, [gv es.length c cyc, .int .i64 t], [(0, ecs es)], .tuple #[.int .i64 (findS es t cyc).1, .int .i64 (findS es t cyc).2], [], 1⟩ := by
  have hS : En.smallH 1 [(0, ecs es)] = true := by simp [En.smallH, small_avL (ecs_av es)]
  have h := codeOk_scope (f_all (c := c) hG t)
  unfold findS
  generalize findP es (ph t cyc) 0 = p at h ⊢
  exact memo_pure (hs := [(2, .frz)]) (ch := [⟨1001, none, .scope (scp Try.prog 71), T71 t 0, [], H29 es c cyc, 2, _, true⟩]) 2 (evk 50) special ⟨trivial, trivial⟩ ⟨h, trivial⟩ (by kernel_rfl) hS (by kernel_rfl)
end
end Go.Proofs.Ytjconcfkpgkbkaa.choose
