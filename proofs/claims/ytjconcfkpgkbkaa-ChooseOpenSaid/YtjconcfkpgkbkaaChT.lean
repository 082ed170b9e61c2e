/- Plain: which entry holds at a time; how long a property of the masks lasts; the least time at which a class fits. -/
import Derived.Test.YtjconcfkpgkbkaaChQ
namespace Go.Proofs.Ytjconcfkpgkbkaa.choose
open Go Go.En
set_option linter.unusedVariables false

theorem ph_emod {t cyc : Int} (h1 : 1 ≤ cyc) (h2 : cyc ≤ 9600000) : ph t cyc = t % cyc := by
  have a1 := Int.tmod_lt_of_pos t (show 0 < cyc by omega)
  have a2 : -cyc < Int.tmod t cyc := by
    have h3 := Int.lt_tmod_of_pos t (show 0 < cyc by omega)
    omega
  unfold ph
  rw [W_id (by omega), Int.tmod_eq_emod_of_nonneg (by omega), Int.add_emod_right, Int.tmod_eq_emod]
  split
  · simp
  · rw [Int.natAbs_of_nonneg (by omega), Int.sub_emod_right, Int.emod_emod]
theorem findP_sh : ∀ {es : List Ent} {r d : Int} {i : Nat}, (∀ e ∈ es, entOk e = true) → 0 ≤ r → r < lsum es → 0 ≤ d → d < (findP es r i).2 → findP es (r + d) i = ((findP es r i).1, (findP es r i).2 - d) ∧ r + (findP es r i).2 ≤ lsum es
  | [], r, d, i, _, h0, h1, _, _ => by simp only [lsum] at h1; omega
  | e :: es, r, d, i, hok, h0, h1, h2, h3 => by
    have he := entOk_iff.1 (hok e (by simp))
    have hl := lsum_ge (es := es) fun x hx => hok x (by simp [hx])
    simp only [lsum] at h1 ⊢
    simp only [findP] at h3 ⊢
    cases hq : decide (r ≥ e.long) with
    | true =>
      rw [hq] at h3
      simp only [decide_eq_true_eq] at hq
      simp only [cond_true] at h3 ⊢
      rw [decide_eq_true (show r + d ≥ e.long by omega)]
      have := findP_sh (es := es) (r := r - e.long) (i := i + 1) (fun x hx => hok x (by simp [hx])) (by omega) (by omega) h2 h3
      rw [show r - e.long + d = r + d - e.long by omega] at this
      exact ⟨this.1, by have := this.2; omega⟩
    | false =>
      rw [hq] at h3
      simp only [decide_eq_false_iff_not] at hq
      simp only [cond_false] at h3 ⊢
      rw [decide_eq_false (show ¬ r + d ≥ e.long by omega)]
      refine ⟨?_, by omega⟩
      simp only [cond_false]
      congr 1
      omega
theorem findP_0 {e : Ent} {es : List Ent} {i : Nat} (h : entOk e = true) : findP (e :: es) 0 i = (i, e.long) := by
  have := entOk_iff.1 h
  simp only [findP]
  rw [decide_eq_false (by omega)]
  simp
theorem findP_nx : ∀ {es : List Ent} {r : Int} {i : Nat}, (∀ e ∈ es, entOk e = true) → 0 ≤ r → r < lsum es → r + (findP es r i).2 ≤ lsum es ∧
    (r + (findP es r i).2 < lsum es → findP es (r + (findP es r i).2) i = ((findP es r i).1 + 1, longAt es ((findP es r i).1 + 1 - i)) ∧ (findP es r i).1 + 1 < i + es.length) ∧ (r + (findP es r i).2 = lsum es → (findP es r i).1 + 1 = i + es.length)
  | [], r, i, _, h0, h1 => by simp only [lsum] at h1; omega
  | e :: es, r, i, hok, h0, h1 => by
    have he := entOk_iff.1 (hok e (by simp))
    have hl := lsum_ge (es := es) fun x hx => hok x (by simp [hx])
    have st : ∀ x : Int, x ≥ e.long → findP (e :: es) x i = findP es (x - e.long) (i + 1) := fun x hx => by
      simp only [findP]; rw [decide_eq_true hx]; rfl
    simp only [lsum] at h1 ⊢
    by_cases hq : r ≥ e.long
    · rw [st r hq]
      have ih := findP_nx (es := es) (r := r - e.long) (i := i + 1) (fun x hx => hok x (by simp [hx])) (by omega) (by omega)
      have hb := findP_ok (es := es) (r := r - e.long) (i := i + 1) (fun x hx => hok x (by simp [hx])) (by omega) (by omega)
      rw [st (r + (findP es (r - e.long) (i + 1)).2) (by omega)]
      rw [show r + (findP es (r - e.long) (i + 1)).2 - e.long = r - e.long + (findP es (r - e.long) (i + 1)).2 by omega]
      refine ⟨by omega, fun h => ?_, fun h => ?_⟩
      · obtain ⟨g1, g2⟩ := ih.2.1 (by omega)
        refine ⟨?_, by simp only [List.length_cons]; omega⟩
        rw [g1]
        congr 1
        unfold longAt
        rw [show (findP es (r - e.long) (i + 1)).1 + 1 - i = ((findP es (r - e.long) (i + 1)).1 + 1 - (i + 1)) + 1 by omega]
        rfl
      · have := ih.2.2 (by omega)
        simp only [List.length_cons]; omega
    · have hf : findP (e :: es) r i = (i, e.long - r) := by simp only [findP]; rw [decide_eq_false hq]; rfl
      rw [hf]
      simp only
      rw [show r + (e.long - r) = e.long by omega, st e.long (by omega)]
      rw [show e.long - e.long = 0 by omega]
      refine ⟨by omega, fun h => ?_, fun h => ?_⟩
      · cases es with
        | nil => simp only [lsum] at h; omega
        | cons x l =>
          rw [findP_0 (hok x (by simp))]
          refine ⟨?_, by simp only [List.length_cons]; omega⟩
          congr 1
          rw [show i + 1 - i = 1 by omega]
          rfl
      · cases es with
        | nil => simp
        | cons x l =>
          have := entOk_iff.1 (hok x (by simp))
          have hl := lsum_ge (es := l) fun x hx => hok x (by simp [hx])
          simp only [lsum] at h
          omega
section
variable {es : List Ent} {cyc : Int}
theorem findS_eq (hG : Good es cyc) (t : Int) : findS es t cyc = findP es (t % cyc) 0 := by
  unfold findS; rw [ph_emod hG.pos hG.le]
theorem find_in (hG : Good es cyc) {t d : Int} (h0 : 0 ≤ d) (h1 : d < (findS es t cyc).2) : findS es (t + d) cyc = ((findS es t cyc).1, (findS es t cyc).2 - d) := by
  have hp := hG.pos
  have hs := hG.sum
  rw [findS_eq hG] at h1 ⊢
  rw [findS_eq hG]
  have m0 := Int.emod_nonneg t (show cyc ≠ 0 by omega)
  have m1 := Int.emod_lt_of_pos t (show 0 < cyc by omega)
  have := findP_sh hG.ok m0 (by omega) h0 h1
  have e : (t + d) % cyc = t % cyc + d := by
    rw [Int.add_emod, ← Int.emod_emod_of_dvd t (Int.dvd_refl cyc)]
    rw [Int.emod_emod, Int.emod_eq_of_lt (a := d) h0 (by omega)]
    exact Int.emod_eq_of_lt (by omega) (by omega)
  rw [e]
  exact this.1
theorem find_next (hG : Good es cyc) (t : Int) : findS es (t + (findS es t cyc).2) cyc = (((findS es t cyc).1 + 1) % es.length, longAt es (((findS es t cyc).1 + 1) % es.length)) := by
  have hp := hG.pos
  have hs := hG.sum
  have h1 := hG.n1
  rw [findS_eq hG, findS_eq hG]
  have m0 := Int.emod_nonneg t (show cyc ≠ 0 by omega)
  have m1 := Int.emod_lt_of_pos t (show 0 < cyc by omega)
  have hn := findP_nx (i := 0) hG.ok m0 (by omega)
  have hb := findP_ok (i := 0) hG.ok m0 (by omega)
  generalize hl : (findP es (t % cyc) 0).2 = l at *
  generalize hj : (findP es (t % cyc) 0).1 = j at *
  by_cases hlt : t % cyc + l < lsum es
  · obtain ⟨g1, g2⟩ := hn.2.1 hlt
    have e : (t + l) % cyc = t % cyc + l := by
      rw [Int.add_emod, Int.emod_eq_of_lt (a := l) (by omega) (by omega)]
      exact Int.emod_eq_of_lt (by omega) (by omega)
    rw [e, g1, Nat.mod_eq_of_lt (by omega)]
    rfl
  · have g := hn.2.2 (by omega)
    have e : (t + l) % cyc = 0 := by
      rw [show t + l = (t % cyc + l) + cyc * (t / cyc) by have := Int.emod_add_mul_ediv t cyc; omega, Int.add_mul_emod_self_left, show t % cyc + l = cyc by omega, Int.emod_self]
    rw [e, show j + 1 = es.length by omega, Nat.mod_self]
    cases hes : es with
    | nil => rw [hes] at h1; simp at h1
    | cons x r => rw [findP_0 (hG.ok x (by rw [hes]; simp))]; rfl
theorem find_per (hG : Good es cyc) (t k : Int) : findS es (t + cyc * k) cyc = findS es t cyc := by
  rw [findS_eq hG, findS_eq hG, Int.add_mul_emod_self_left]
/-- The mask at a time. -/
def mk (es : List Ent) (cyc u : Int) : Int := maskAt es (findS es u cyc).1
theorem mk_per (hG : Good es cyc) (t k : Int) : mk es cyc (t + cyc * k) = mk es cyc t := by unfold mk; rw [find_per hG]
theorem strO_none {has : Int → Bool} : ∀ {k i : Nat} {left n : Int}, i < es.length → strO es has k i left n = none → ∀ m, m < k → has (maskAt es ((i + m) % es.length)) = true
  | 0, i, left, n, _, _, m, hm => by omega
  | k + 1, i, left, n, hi, h, m, hm => by
    simp only [strO] at h
    cases hq : has (maskAt es i) with
    | false => rw [hq] at h; cases h
    | true =>
      rw [hq] at h
      cases m with
      | zero => rw [Nat.add_zero, Nat.mod_eq_of_lt hi]; exact hq
      | succ m =>
        have := strO_none (Nat.mod_lt _ (by omega)) h m (by omega)
        rw [Nat.mod_add_mod, show i + 1 + m = i + (m + 1) by omega] at this
        exact this
theorem strO_some (hG : Good es cyc) {has : Int → Bool} : ∀ {k i : Nat} {left n s u : Int}, findS es u cyc = (i, left) → strO es has k i left n = some s → n ≤ s ∧ (∀ e, 0 ≤ e → e < s - n → has (mk es cyc (u + e)) = true) ∧ has (mk es cyc (u + (s - n))) = false
  | 0, i, left, n, s, u, _, h => by cases h
  | k + 1, i, left, n, s, u, hu, h => by
    have hf := findS_ok hG u
    rw [hu] at hf
    simp only [strO] at h
    cases hq : has (maskAt es i) with
    | false =>
      rw [hq] at h
      simp only [cond_false, Option.some.injEq] at h
      subst h
      refine ⟨by omega, fun e _ _ => by omega, ?_⟩
      rw [show u + (n - n) = u by omega]
      unfold mk; rw [hu]; exact hq
    | true =>
      rw [hq] at h
      simp only [cond_true] at h
      have hn := find_next hG u
      rw [hu] at hn
      obtain ⟨g1, g2, g3⟩ := strO_some hG (u := u + left) hn h
      refine ⟨by omega, fun e h0 h1 => ?_, ?_⟩
      · by_cases he : e < left
        · unfold mk
          rw [find_in hG h0 (by rw [hu]; exact he), hu]
          exact hq
        · have := g2 (e - left) (by omega) (by omega)
          rw [show u + left + (e - left) = u + e by omega] at this
          exact this
      · rw [show u + left + (s - (n + left)) = u + (s - n) by omega] at g3
        exact g3
/-- How long a property of the masks lasts. -/
theorem str_spec (hG : Good es cyc) (has : Int → Bool) (t : Int) : ((∀ u, has (mk es cyc u) = true) ∧ strS es has t cyc = cyc) ∨
    (0 ≤ strS es has t cyc ∧ strS es has t cyc < cyc ∧ (∀ e, 0 ≤ e → e < strS es has t cyc → has (mk es cyc (t + e)) = true) ∧ has (mk es cyc (t + strS es has t cyc)) = false) := by
  have hp := hG.pos
  have hf := findS_ok hG t
  unfold strS
  cases ho : strO es has (es.length + 1) (findS es t cyc).1 (findS es t cyc).2 0 with
  | none =>
    refine .inl ⟨fun u => ?_, rfl⟩
    have hu := (findS_ok hG u).1
    have h1 := strO_none hf.1 ho
    unfold mk
    generalize (findS es u cyc).1 = j at *
    generalize (findS es t cyc).1 = i at *
    have := h1 ((j + es.length - i) % es.length) (by have := Nat.mod_lt (j + es.length - i) (show es.length > 0 by omega); omega)
    rw [Nat.add_mod_mod, show i + (j + es.length - i) = j + es.length by omega, Nat.add_mod_right, Nat.mod_eq_of_lt hu] at this
    exact this
  | some s =>
    obtain ⟨g1, g2, g3⟩ := strO_some hG rfl ho
    simp only [Option.getD_some]
    rw [show s - 0 = s by omega] at g2 g3
    refine .inr ⟨g1, ?_, g2, g3⟩
    apply Classical.byContradiction
    intro hn
    have hm0 := Int.emod_nonneg s (show cyc ≠ 0 by omega)
    have hm1 := Int.emod_lt_of_pos s (show 0 < cyc by omega)
    have := g2 (s % cyc) hm0 (by omega)
    rw [show t + s = (t + s % cyc) + cyc * (s / cyc) by have := Int.emod_add_mul_ediv s cyc; omega, mk_per hG, this] at g3
    cases g3
/-! ### A class -/
variable {cls : Int}
def opn (es : List Ent) (cyc cls u : Int) : Bool := openS cls (mk es cyc u)
theorem open_spec (hG : Good es cyc) (cls t : Int) : ((∀ u, opn es cyc cls u = true) ∧ openN es cls t cyc = 1099511627776) ∨
    (0 ≤ openN es cls t cyc ∧ openN es cls t cyc < cyc ∧ (∀ e, 0 ≤ e → e < openN es cls t cyc → opn es cyc cls (t + e) = true) ∧ opn es cyc cls (t + openN es cls t cyc) = false) := by
  have hh : ∀ m, hasG 70 cls m = openS cls m := fun m => by simp [hasG]
  have h := str_spec hG (hasG 70 cls) t
  unfold openN
  rcases h with ⟨h1, h2⟩ | ⟨h1, h2, h3, h4⟩
  · refine .inl ⟨fun u => ?_, ?_⟩
    · unfold opn; rw [← hh]; exact h1 u
    · rw [h2]; simp
  · right
    have hb : (strS es (hasG 70 cls) t cyc == cyc) = false := by simp; omega
    rw [hb]
    simp only [cond_false]
    refine ⟨h1, h2, fun e g1 g2 => ?_, ?_⟩
    · unfold opn; rw [← hh]; exact h3 e g1 g2
    · unfold opn; rw [← hh]; exact h4
theorem opn_per (hG : Good es cyc) (t k : Int) : opn es cyc cls (t + cyc * k) = opn es cyc cls t := by unfold opn; rw [mk_per hG]
theorem openN_le (hG : Good es cyc) {t d : Int} (h0 : 0 ≤ d) (h : opn es cyc cls (t + d) = false) : openN es cls t cyc ≤ d := by
  rcases open_spec hG cls t with ⟨h1, _⟩ | ⟨_, _, h3, _⟩
  · rw [h1] at h; cases h
  · apply Classical.byContradiction
    intro hn
    rw [h3 d h0 (by omega)] at h; cases h
theorem openN_ge (hG : Good es cyc) {t d : Int} (hd : d ≤ 1099511627776) (h : ∀ e, 0 ≤ e → e < d → opn es cyc cls (t + e) = true) : d ≤ openN es cls t cyc := by
  rcases open_spec hG cls t with ⟨_, h2⟩ | ⟨h0, _, _, h4⟩
  · omega
  · apply Classical.byContradiction
    intro hn
    rw [h _ h0 (by omega)] at h4; cases h4
theorem openN_per (hG : Good es cyc) (t k : Int) : openN es cls (t + cyc * k) cyc = openN es cls t cyc := by
  have hs : ∀ u, openN es cls u cyc = bif strS es (hasG 70 cls) u cyc == cyc then 1099511627776 else strS es (hasG 70 cls) u cyc := fun u => rfl
  rw [hs, hs]
  have : ∀ u, strS es (hasG 70 cls) u cyc = (strO es (hasG 70 cls) (es.length + 1) (findS es u cyc).1 (findS es u cyc).2 0).getD cyc := fun u => rfl
  rw [this, this, find_per hG]
/-- What the least time is at which a class fits. -/
def Fit (es : List Ent) (cyc cls t long : Int) : Option Int → Prop
  | none => ∀ b, t ≤ b → openN es cls b cyc < long
  | some a => t ≤ a ∧ openN es cls a cyc ≥ long ∧ ∀ b, t ≤ b → b < a → openN es cls b cyc < long
theorem Fit.uniq {t long : Int} {g g' : Option Int} (h : Fit es cyc cls t long g) (h' : Fit es cyc cls t long g') : g = g' := by
  cases g with
  | none =>
    cases g' with
    | none => rfl
    | some a =>
      obtain ⟨h1, h2, _⟩ := h'
      have := h a h1
      omega
  | some a =>
    obtain ⟨h1, h2, h3⟩ := h
    cases g' with
    | none => have := h' a h1; omega
    | some a' =>
      obtain ⟨k1, k2, k3⟩ := h'
      by_cases hl : a < a'
      · have := k3 a h1 hl; omega
      · by_cases hm : a' < a
        · have := h3 a' k1 hm; omega
        · congr 1; omega
theorem Fit.ex (es : List Ent) (cyc cls t long : Int) : ∃ g, Fit es cyc cls t long g := by
  by_cases h : ∃ n : Nat, openN es cls (t + n) cyc ≥ long
  · obtain ⟨n, hn⟩ := h
    have key : ∀ n : Nat, (∀ m : Nat, m < n → openN es cls (t + m) cyc < long) ∨ ∃ m : Nat, m < n ∧ openN es cls (t + m) cyc ≥ long ∧ ∀ k : Nat, k < m → openN es cls (t + k) cyc < long := by
      intro n
      induction n with
      | zero => exact .inl fun m hm => by omega
      | succ n ih =>
        rcases ih with h1 | ⟨m, h1, h2, h3⟩
        · by_cases hq : openN es cls (t + n) cyc ≥ long
          · exact .inr ⟨n, by omega, hq, h1⟩
          · refine .inl fun m hm => ?_
            by_cases hmn : m = n
            · subst hmn; omega
            · exact h1 m (by omega)
        · exact .inr ⟨m, by omega, h2, h3⟩
    rcases key (n + 1) with h1 | ⟨m, h1, h2, h3⟩
    · have := h1 n (by omega); omega
    · refine ⟨some (t + m), by omega, h2, fun b g1 g2 => ?_⟩
      have := h3 (b - t).toNat (by omega)
      rw [show t + (((b - t).toNat : Nat) : Int) = b by omega] at this
      exact this
  · refine ⟨none, fun b hb => ?_⟩
    apply Classical.byContradiction
    intro hn
    exact h ⟨(b - t).toNat, by rw [show t + (((b - t).toNat : Nat) : Int) = b by omega]; omega⟩
theorem Fit.none_of (hG : Good es cyc) {t long : Int} (h : ∀ b, t ≤ b → b < t + cyc → openN es cls b cyc < long) : Fit es cyc cls t long none := by
  intro b hb
  have hp := hG.pos
  have m0 := Int.emod_nonneg (b - t) (show cyc ≠ 0 by omega)
  have m1 := Int.emod_lt_of_pos (b - t) (show 0 < cyc by omega)
  have := h (t + (b - t) % cyc) (by omega) (by omega)
  rw [← openN_per hG _ ((b - t) / cyc), show t + (b - t) % cyc + cyc * ((b - t) / cyc) = b by have := Int.emod_add_mul_ediv (b - t) cyc; omega] at this
  exact this
end
end Go.Proofs.Ytjconcfkpgkbkaa.choose
