/- Parts of a proof, joined: F, G, H, I, J, M, N, L5, O. -/
import Derived.Test.YtfpbgiaiifcnlaaPt1
/- What the gates' functions make of valid gate lists: open, Fits, Fit. -/
namespace Go.Proofs.Ytfpbgiaiifcnlaa.pg
open Go Go.Fz Go.Fz.Sy
set_option linter.unusedVariables false
set_option linter.unusedSimpArgs false
theorem K43_ex {g : Gates} (h : gatesOk g) {c : Int} (hc : 0 ≤ c) (t : Int) {i : Nat} {l : Int} (hf : K80 (g, t, ()) = some ((i : Int), l, ())) (hi : i < g.1.length) (h1 : 1 ≤ l) (h2 : l ≤ 9600000) :
    ∃ n : Int, K43 (g, c, t, ()) = some (n, ()) ∧ 0 ≤ n ∧ n ≤ 1099511627776 ∧ (n = 0 → bitAt (g.1[i]).1 c = 0) := by
  obtain ⟨j, r, n, i', l', k, hx, hj⟩ := stretch_s (g := g) h (c := c) (v := 1) hc (fun b => !b) hi h1 h2
  try dsimp only at hx hj
  rw [K43_eq]; unfold R43
  rw [hf]
  simp only [opt_s]
  rw [hx]
  simp only [opt_s]
  have hcy := cyc_pos h
  rcases hj with rfl | ⟨rfl, r0, r1, r2⟩
  · simp only [show (Nat.beq 0 0) = true from rfl, cond_true, ieqF_eq, beq_self_eq_true]
    exact ⟨_, rfl, by omega, by omega, fun hn => by omega⟩
  · simp only [show (Nat.beq 1 0) = false from rfl, cond_false, ieqF_eq]
    by_cases hr : r = g.2
    · simp only [hr, beq_self_eq_true, cond_true]
      exact ⟨_, rfl, by omega, by omega, fun hn => by omega⟩
    · rw [show (r == g.2) = false by rw [beq_eq_false_iff_ne]; exact hr]
      simp only [cond_false]
      refine ⟨_, rfl, r0, by omega, fun hn => ?_⟩
      have := r2 hn
      rw [ieqF_eq] at this
      rcases bit01 (shrI .i64 (g.1[i]).1 c) with hb | hb
      · exact hb
      · unfold bitAt at this
        rw [hb] at this
        cases this
noncomputable def openF (g : Gates) (c t : Int) : Int := ((K43 (g, c, t, ())).map (·.1)).getD 0
theorem K43_s {g : Gates} (h : gatesOk g) {c : Int} (hc : 0 ≤ c) (t : Int) : K43 (g, c, t, ()) = some (openF g c t, ()) ∧ 0 ≤ openF g c t ∧ openF g c t ≤ 1099511627776 := by
  obtain ⟨i, l, hf, hi, h1, h2⟩ := K80_s h t
  obtain ⟨n, hn, n0, n1, _⟩ := K43_ex h hc t hf hi h1 h2
  have : openF g c t = n := by unfold openF; rw [hn]; rfl
  rw [this]; exact ⟨hn, n0, n1⟩
theorem K42_s {g : Gates} (h : gatesOk g) {c t l : Int} (c0 : 0 ≤ c) (c1 : c ≤ 7) (t0 : -1099511627776 ≤ t) (t1 : t ≤ 1099511627776) (l0 : 0 ≤ l) (l1 : l ≤ 1099511627776) : K42 (g, c, t, l, ()) = some (0, ()) := by
  have d1 : ¬ c < 0 := by omega
  have d2 : c < 8 := by omega
  have d3 : ¬ t < -1099511627776 := by omega
  have d4 : ¬ 1099511627776 < t := by omega
  have d5 : ¬ l < 0 := by omega
  have d6 : ¬ 1099511627776 < l := by omega
  rw [K42_eq]; unfold R42
  simp only [K17_s h, opt_s, ieqF_eq, iltF_eq, beq_self_eq_true, Bool.not_true, cond_false, d1, d2, d3, d4, d5, d6, decide_false, decide_true]
  rfl
theorem K22_s {g : Gates} (h : gatesOk g) {c t l : Int} (c0 : 0 ≤ c) (c1 : c ≤ 7) (t0 : -1099511627776 ≤ t) (t1 : t ≤ 1099511627776) (l0 : 0 ≤ l) (l1 : l ≤ 1099511627776) : K22 (g, c, t, l, ()) = some (decide (l ≤ openF g c t), 0, ()) := by
  rw [K22_eq]; unfold R22
  simp only [K42_s h c0 c1 t0 t1 l0 l1, opt_s, ieqF_eq, iltF_eq, beq_self_eq_true, Bool.not_true, cond_false, (K43_s h c0 t).1]
  by_cases hl : l ≤ openF g c t
  · have : ¬ openF g c t < l := by omega
    simp [hl, this]
  · have : openF g c t < l := by omega
    simp [hl, this]
theorem K86_s {g : Gates} (h : gatesOk g) {c t l : Int} (c0 : 0 ≤ c) (c1 : c ≤ 7) (t0 : -1099511627776 ≤ t) (t1 : t ≤ 1099511627776) (l0 : 0 ≤ l) (l1 : l ≤ 1099511627776) :
    (∃ a : Int, K86 (g, c, t, l, ()) = some (a, 0, ()) ∧ t ≤ a ∧ a < t + 2 * g.2 ∧ l ≤ openF g c a ∧ (l ≤ openF g c t → a = t)) ∨ (K86 (g, c, t, l, ()) = some (0, 4, ()) ∧ ¬ l ≤ openF g c t) := by
  have hcy := cyc_pos h
  have hc1 := h.c1
  have w1 : wrF .i64 (2 * g.2) = 2 * g.2 := wr64 (by omega) (by omega)
  have w2 : wrF .i64 (t + 2 * g.2) = t + 2 * g.2 := wr64 (by omega) (by omega)
  rw [K86_eq]; unfold R86
  simp only [K42_s h c0 c1 t0 t1 l0 l1, opt_s, ieqF_eq (0 : Int) 0, beq_self_eq_true, Bool.not_true, cond_false]
  obtain ⟨x, hx, hj⟩ := iter_big (B := fun s1 : ((Int × (((List (Int × Int)) × Int) × (Int × (Int × (Int × Unit))))) × Unit) =>
      bif (iltF (s1.1.2.2.2.2.1) ((wrF .i64 ((t + (wrF .i64 ((2 * s1.1.2.1.2)))))))) then opt (K43 ((s1.1.2.1, (s1.1.1, (s1.1.2.2.2.2.1, ()))))) fun x2 =>
        bif !(iltF (x2.1) (l)) then some (.inl ((0 + 1), ((s1.1.1, (s1.1.2.1, (s1.1.2.2.2.2.1, (0, (s1.1.2.2.2.2.1, ()))))), ())))
        else opt (K80 ((s1.1.2.1, ((wrF .i64 ((s1.1.2.2.2.2.1 + x2.1))), ())))) fun x3 =>
          opt (iterK (fun s4 : ((Int × (((List (Int × Int)) × Int) × (Int × (Int × (Int × (Int × (Int × Unit))))))) × Unit) =>
            bif (iltF (s4.1.2.2.2.2.2.2.1) ((wrF .i64 (((((s1.1.2.1.1).length : Nat) : Int) + 1))))) then opt (atI (s4.1.2.1.1) (s4.1.2.2.2.2.1)) fun x5 =>
              bif (iltF (s4.1.1) (0)) then none
              else bif !(ieqF ((bitI .and .i64 ((shrI .i64 (x5.1) (s4.1.1))) (1))) (0)) then some (.inl ((0 + 1), ((s4.1.1, (s4.1.2.1, (s4.1.2.2.2.1, (s4.1.2.2.2.1, (s4.1.2.2.2.2.1, (s4.1.2.2.2.2.2.1, (s4.1.2.2.2.2.2.2.1, ()))))))), ())))
                else bif (ieqF ((((s4.1.2.1.1).length : Nat) : Int)) (0)) then none
                  else opt (atI (s4.1.2.1.1) ((Int.tmod (wrF .i64 ((s4.1.2.2.2.2.1 + 1))) (((s4.1.2.1.1).length : Nat) : Int)))) fun x6 =>
                    some (.inr ((s4.1.1, (s4.1.2.1, (s4.1.2.2.1, ((wrF .i64 ((s4.1.2.2.2.1 + s4.1.2.2.2.2.2.1))), ((Int.tmod (wrF .i64 ((s4.1.2.2.2.2.1 + 1))) (((s4.1.2.1.1).length : Nat) : Int)), (x6.2, ((wrF .i64 ((s4.1.2.2.2.2.2.2.1 + 1))), ()))))))), ()))
            else some (.inl (0, ((s4.1.1, (s4.1.2.1, (s4.1.2.2.1, (s4.1.2.2.2.1, (s4.1.2.2.2.2.1, (s4.1.2.2.2.2.2.1, (s4.1.2.2.2.2.2.2.1, ()))))))), ())))) bigN ((s1.1.1, (s1.1.2.1, (0, (0, (x3.1, (x3.2.1, (0, ()))))))), ())) fun x7 =>
          bif (Nat.beq x7.1 0) then some (.inr ((x7.2.1.1, (s1.1.2.1, (s1.1.2.2.1, (s1.1.2.2.2.1, ((wrF .i64 (((wrF .i64 ((s1.1.2.2.2.2.1 + x2.1))) + x7.2.1.2.1.2))), ()))))), ()))
          else some (.inr ((x7.2.1.1, (s1.1.2.1, (s1.1.2.2.1, (s1.1.2.2.2.1, ((wrF .i64 (((wrF .i64 ((s1.1.2.2.2.2.1 + x2.1))) + x7.2.1.2.2.1))), ()))))), ()))
      else some (.inl (0, ((s1.1.1, (s1.1.2.1, (s1.1.2.2.1, (s1.1.2.2.2.1, (s1.1.2.2.2.2.1, ()))))), ()))))
    (fun s => ∃ a : Int, s = ((c, (g, (0, (0, (a, ()))))), ()) ∧ t ≤ a ∧ a ≤ t + 3200000000000 ∧ (l ≤ openF g c t → a = t))
    (fun x => (∃ y, x = ((0 : Nat), y) ∧ ¬ l ≤ openF g c t) ∨ (∃ a b : Int, x = (1, ((c, (g, (a, (0, (b, ()))))), ())) ∧ t ≤ a ∧ a < t + 2 * g.2 ∧ l ≤ openF g c a ∧ (l ≤ openF g c t → a = t)))
    (fun s => (t + 3200000000000 - s.1.2.2.2.2.1).toNat)
    (fun s hs => by
      obtain ⟨a, rfl, a0, a1, a2⟩ := hs
      simp only [w1, w2]
      by_cases hlt : a < t + 2 * g.2
      · obtain ⟨o1, o2, o3⟩ := K43_s h c0 a
        rw [show iltF a (t + 2 * g.2) = true by rw [iltF_eq]; simp [hlt]]
        simp only [cond_true, o1, opt_s]
        by_cases hl : l ≤ openF g c a
        · left
          rw [show iltF (openF g c a) l = false by rw [iltF_eq]; simp; omega]
          exact ⟨_, rfl, .inr ⟨a, a, rfl, a0, hlt, hl, a2⟩⟩
        · right
          rw [show iltF (openF g c a) l = true by rw [iltF_eq]; simp; omega]
          simp only [Bool.not_true, cond_false]
          have e1 : wrF .i64 (a + openF g c a) = a + openF g c a := wr64 (by omega) (by omega)
          obtain ⟨i, lf, hf, hi, h1, h2⟩ := K80_s h (a + openF g c a)
          rw [e1, hf]
          simp only [opt_s]
          obtain ⟨j, r, n, i', l', k, hx, hj⟩ := stretch_s (g := g) h (c := c) (v := 0) c0 (fun b => !b) hi h1 h2
          try dsimp only at hx hj
          rw [hx]
          simp only [opt_s]
          have ha : ¬ (l ≤ openF g c t) := fun hh => by
            have := a2 hh
            subst this
            exact hl hh
          rcases hj with rfl | ⟨rfl, r0, r1, r2⟩
          · have e2 : wrF .i64 (a + openF g c a + g.2) = a + openF g c a + g.2 := wr64 (by omega) (by omega)
            simp only [show (Nat.beq 0 0) = true from rfl, cond_true, e2]
            exact ⟨_, rfl, ⟨_, rfl, by omega, by omega, fun hh => absurd hh ha⟩, by simp only; omega⟩
          · have e2 : wrF .i64 (a + openF g c a + r) = a + openF g c a + r := wr64 (by omega) (by omega)
            simp only [show (Nat.beq 1 0) = false from rfl, cond_false, e2]
            have hpos : 1 ≤ openF g c a + r := by
              apply Classical.byContradiction
              intro hn
              have z1 : openF g c a = 0 := by omega
              have z2 : r = 0 := by omega
              have hr := r2 z2
              rw [z1, Int.add_zero] at hf
              obtain ⟨n', hn', _, _, hz'⟩ := K43_ex h c0 a hf hi h1 h2
              rw [o1] at hn'
              simp only [Option.some.injEq, Prod.mk.injEq, and_true] at hn'
              have := hz' (by omega)
              rw [this] at hr
              cases hr
            exact ⟨_, rfl, ⟨_, rfl, by omega, by omega, fun hh => absurd hh ha⟩, by simp only; omega⟩
      · left
        rw [show iltF a (t + 2 * g.2) = false by rw [iltF_eq]; simp; omega]
        exact ⟨_, rfl, .inl ⟨_, rfl, fun hh => by have := a2 hh; omega⟩⟩)
    (s := ((c, (g, (0, (0, (t, ()))))), ())) ⟨t, rfl, by omega, by omega, fun _ => rfl⟩ (by simp only; omega)
  rw [hx]
  simp only [opt_s]
  rcases hj with ⟨y, rfl, hy⟩ | ⟨a, b, rfl, q1, q2, q3, q4⟩
  · right; exact ⟨rfl, hy⟩
  · left; exact ⟨a, rfl, q1, q2, q3, q4⟩
end Go.Proofs.Ytfpbgiaiifcnlaa.pg
/- What choose's functions make of valid lines and heads. -/
namespace Go.Proofs.Ytfpbgiaiifcnlaa.pg
open Go Go.Fz Go.Fz.Sy
set_option linter.unusedVariables false
set_option linter.unusedSimpArgs false
abbrev View := Line × List Part
def isZ (x : Part) : Bool := (((x.1.1 == 0) && ((x.1.2.1 == 0) && ((x.1.2.2.1 == 0) && ((x.1.2.2.2.1 == 0) && ((x.1.2.2.2.2 == 0) && true))))) && ((x.2.1 == 0) && ((x.2.2 == false) && true)))
theorem isZ_ok {x : Part} (h : partOk x) : isZ x = false := by
  have := h.it.z0
  unfold isZ
  rw [show (x.1.2.2.2.1 == 0) = false by rw [beq_eq_false_iff_ne]; omega]
  simp
theorem isZ_z : isZ zP = true := rfl
structure headsOk (hs : List Part) : Prop where
  n8 : hs.length = 8
  ps : ∀ (i : Nat) x, hs[i]? = some x → x = zP ∨ (partOk x ∧ x.1.2.2.1 = (i : Int))
  r1 : rq hs ≤ 1
theorem headsOk.left {hs : List Part} (h : headsOk hs) {i : Nat} {x : Part} (hx : hs[i]? = some x) : 0 ≤ x.2.1 ∧ x.2.1 ≤ 1542 := by
  rcases h.ps i x hx with rfl | ⟨h1, _⟩
  · exact ⟨by decide, by decide⟩
  · have := h1.left; omega
theorem K84_s {hs : List Part} (h : headsOk hs) : K84 (hs, ()) = some (0, ()) := by
  have h8 := h.n8
  rw [K84_eq]; unfold R84
  rw [show (ieqF ((hs.length : Nat) : Int) 8) = true by rw [ieqF_eq, h8]; rfl]
  simp only [Bool.not_true, cond_false]
  rw [iter_steps (st := fun i => ((0, ((hs.map r1).take i).sum, (i : Int), ()), ())) (n := hs.length) (x := (0, ((0, ((hs.map r1).take hs.length).sum, (hs.length : Int), ()), ()))) ?_ ?_ ?_ (by omega)]
  · rw [List.take_of_length_le (by simp)]
    have c : ¬ 1 < (hs.map r1).sum := by have := h.r1; unfold rq at this; omega
    simp only [opt_s, show (Nat.beq 0 0) = true from rfl, cond_true, iltF_eq, c, decide_false, cond_false]
  · simp
  · intro i hi
    have hx : hs[i]? = some hs[i] := List.getElem?_eq_getElem hi
    have hlt : ((i : Int) < ((hs.length : Nat) : Int)) := by omega
    have e2 := sum_take_succ (l := hs.map r1) (n := i) (x := r1 hs[i]) (by simp [hx])
    have e4 : wrF .i64 ((i : Int) + 1) = ((i + 1 : Nat) : Int) := by rw [wr64] <;> omega
    have hb := rq_bd hs i
    simp only [iltF_eq, ieqF_eq, hlt, decide_true, cond_true, atI_get hx, opt_s, e4, e2]
    rcases h.ps i _ hx with hz | ⟨hp, hc⟩
    · have hr : r1 hs[i] = 0 := by rw [hz]; rfl
      rw [show (((hs[i].1.1 == 0) && ((hs[i].1.2.1 == 0) && ((hs[i].1.2.2.1 == 0) && ((hs[i].1.2.2.2.1 == 0) && ((hs[i].1.2.2.2.2 == 0) && true))))) && ((hs[i].2.1 == 0) && ((hs[i].2.2 == false) && true))) = true from by rw [hz]; rfl]
      simp only [cond_true, hr, Int.add_zero]
    · have hz := isZ_ok hp
      unfold isZ at hz
      rw [hz]
      simp only [cond_false, K47_s hp, opt_s, beq_self_eq_true, Bool.not_true, hc, show (Nat.beq 0 0) = true from rfl, cond_true]
      cases hr : hs[i].2.2 with
      | true =>
        have hr1 : r1 hs[i] = 1 := by unfold r1; rw [hr]; rfl
        have e5 : wrF .i64 (((hs.map r1).take i).sum + 1) = ((hs.map r1).take i).sum + 1 := wr64 (by omega) (by omega)
        simp only [cond_true, opt_s, e5, hr1]
      | false =>
        have hr1 : r1 hs[i] = 0 := by unfold r1; rw [hr]; rfl
        simp only [cond_false, opt_s, hr1, Int.add_zero]
  · have : ¬ ((hs.length : Nat) : Int) < ((hs.length : Nat) : Int) := by omega
    simp only [iltF_eq, this, decide_false, cond_false]
theorem K66_s {l : Line} {hs : List Part} {t : Int} (hl : lineOk l) (hh : headsOk hs) (t0 : 0 ≤ t) (t1 : t ≤ 549755813888) : K66 (l, hs, t, ()) = some (0, ()) := by
  have d1 : ¬ t < 0 := by omega
  have d2 : ¬ 549755813888 < t := by omega
  rw [K66_eq]; unfold R66
  simp only [K25_s hl, K84_s hh, opt_s, ieqF_eq, iltF_eq, beq_self_eq_true, Bool.not_true, cond_false, d1, d2, decide_false]
  rfl
theorem K78_s {v : View} {c : Nat} {x : Part} (hx : v.2[c]? = some x) : K78 (v, (c : Int), ()) = some (!isZ x, ()) := by
  rw [K78_eq]; unfold R78
  simp only [atI_get hx, opt_s, ieqF_eq]
  rfl
def freeQ (hs : List Part) (c : Nat) : Bool := decide (6 ≤ c) || (hs.zipIdx.all fun p => decide (p.2 = c) || !p.1.2.2)
theorem K85_s {v : View} (hh : v.2.length = 8) (c : Nat) : ∃ b, K85 (v, (c : Int), ()) = some (b, ()) ∧ (b = true → c ≥ 6 ∨ ∀ (j : Nat) x, v.2[j]? = some x → j ≠ c → x.2.2 = false) ∧ (b = false → ∃ (j : Nat) (x : Part), v.2[j]? = some x ∧ j ≠ c ∧ x.2.2 = true) := by
  rw [K85_eq]; unfold R85
  by_cases h6 : (c : Int) < 6
  · rw [show iltF (c : Int) 6 = true by rw [iltF_eq]; simp [h6]]
    simp only [Bool.not_true, cond_false]
    obtain ⟨x, hx, hj⟩ := iter_big (B := fun s0 : ((Bool × (Int × Unit)) × Unit) =>
      bif (iltF (s0.1.2.1) ((((v.2).length : Nat) : Int))) then opt (atI (v.2) (s0.1.2.1)) fun x1 =>
        opt (bif !(ieqF (s0.1.2.1) ((c : Int))) then bif x1.2.2 then some ((0 + 1 : Nat), ((false, ()), ()))
            else some (0, ((s0.1.1, ()), ()))
          else some (0, ((s0.1.1, ()), ()))) fun x2 =>
        bif (Nat.beq x2.1 0) then some (.inr ((x2.2.1.1, ((wrF .i64 ((s0.1.2.1 + 1))), ())), ()))
        else some (.inl ((0 + 1 : Nat), ((x2.2.1.1, (s0.1.2.1, ())), ())))
      else some (.inl (0, ((s0.1.1, (s0.1.2.1, ())), ()))))
      (fun s => ∃ i : Nat, s = ((false, (i : Int), ()), ()) ∧ i ≤ 8 ∧ ∀ (j : Nat) x, j < i → v.2[j]? = some x → j ≠ c → x.2.2 = false)
      (fun x => (∃ y, x = ((0 : Nat), y) ∧ ∀ (j : Nat) x, v.2[j]? = some x → j ≠ c → x.2.2 = false) ∨ (∃ i : Int, x = (1, ((false, (i, ())), ())) ∧ ∃ (j : Nat) (x : Part), v.2[j]? = some x ∧ j ≠ c ∧ x.2.2 = true))
      (fun s => 8 - s.1.2.1.toNat)
      (fun s hs => by
        obtain ⟨i, rfl, hi, hfr⟩ := hs
        by_cases h8 : i < 8
        · have hx : v.2[i]? = some (v.2[i]'(by omega)) := List.getElem?_eq_getElem (by omega)
          have e4 : wrF .i64 ((i : Int) + 1) = ((i + 1 : Nat) : Int) := by rw [wr64] <;> omega
          rw [show iltF (i : Int) ((v.2.length : Nat) : Int) = true by rw [iltF_eq]; simp; omega]
          simp only [cond_true, atI_get hx, opt_s, ieqF_eq]
          by_cases hic : i = c
          · subst hic
            right
            simp only [beq_self_eq_true, Bool.not_true, cond_false, opt_s, show (Nat.beq 0 0) = true from rfl, cond_true, e4]
            exact ⟨_, rfl, ⟨i + 1, rfl, by omega, fun j x hj hx hne => hfr j x (by omega) hx hne⟩, by simp only [Int.toNat_natCast]; omega⟩
          · rw [show (((i : Nat) : Int) == ((c : Nat) : Int)) = false by rw [beq_eq_false_iff_ne]; omega]
            simp only [Bool.not_false, cond_true]
            cases hr : (v.2[i]'(by omega)).2.2 with
            | true =>
              left
              exact ⟨_, rfl, .inr ⟨_, rfl, i, _, hx, hic, hr⟩⟩
            | false =>
              right
              simp only [cond_false, opt_s, show (Nat.beq 0 0) = true from rfl, cond_true, e4]
              refine ⟨_, rfl, ⟨i + 1, rfl, by omega, fun j x hj hx2 hne => ?_⟩, by simp only [Int.toNat_natCast]; omega⟩
              by_cases hji : j = i
              · subst hji; rw [hx] at hx2; cases hx2; exact hr
              · exact hfr j x (by omega) hx2 hne
        · left
          rw [show iltF (i : Int) ((v.2.length : Nat) : Int) = false by rw [iltF_eq]; simp; omega]
          refine ⟨_, rfl, .inl ⟨_, rfl, fun j x hx hne => hfr j x ?_ hx hne⟩⟩
          have := (List.getElem?_eq_some_iff.1 hx).1
          omega)
      (s := ((false, (0, ())), ())) ⟨0, rfl, by omega, fun j x hj => by omega⟩ (by simp only; omega)
    rw [hx]
    simp only [opt_s]
    rcases hj with ⟨y, rfl, hy⟩ | ⟨i, rfl, hy⟩
    · exact ⟨true, rfl, ⟨fun _ => .inr hy, fun h => Bool.noConfusion h⟩⟩
    · exact ⟨false, rfl, ⟨fun h => Bool.noConfusion h, fun _ => hy⟩⟩
  · rw [show iltF (c : Int) 6 = false by rw [iltF_eq]; simp; omega]
    exact ⟨true, rfl, ⟨fun _ => .inl (by omega), fun h => Bool.noConfusion h⟩⟩
theorem K79_s {l : Line} {hs : List Part} (hl : lineOk l) (hh : headsOk hs) {c : Nat} {x : Part} (hx : hs[c]? = some x) {t : Int} (t0 : 0 ≤ t) (t1 : t ≤ 600000000000) : K79 ((l, hs), (c : Int), t, ()) = some (decide (x.2.1 * l.2.1 ≤ openF l.1 c (t + l.2.2)), ()) := by
  have hb := hh.left hx
  have l1 := hl.p0; have l2 := hl.p1; have l3 := hl.s0; have l4 := hl.s1
  have hm := mul_bd (a := x.2.1) (b := l.2.1) hb.1 (by omega) l1 l2
  have hc : c < 8 := by have := (List.getElem?_eq_some_iff.1 hx).1; have := hh.n8; omega
  have e1 : wrF .i64 (t + l.2.2) = t + l.2.2 := wr64 (by omega) (by omega)
  have e2 : wrF .i64 (x.2.1 * l.2.1) = x.2.1 * l.2.1 := wr64 (by omega) (by omega)
  rw [K79_eq]; unfold R79
  simp only [atI_get hx, opt_s, e1, e2]
  rw [K22_s hl.g (by omega) (by omega) (by omega) (by omega) (by omega) (by omega)]
  rfl
theorem K71_s {v : View} {c t : Int} {b1 b2 b3 : Bool} (h1 : K78 (v, c, ()) = some (b1, ())) (h2 : K85 (v, c, ()) = some (b2, ())) (h3 : K79 (v, c, t, ()) = some (b3, ())) : K71 (v, c, t, ()) = some (b1 && b2 && b3, ()) := by
  have w0 : wrF .i64 (0 + 1) = 1 := by rw [wr64] <;> omega
  have w1 : wrF .i64 (1 + 1) = 2 := by rw [wr64] <;> omega
  have w2 : wrF .i64 (2 + 1) = 3 := by rw [wr64] <;> omega
  have w3 : wrF .i64 1 = 1 := by rw [wr64] <;> omega
  have w4 : wrF .i64 2 = 2 := by rw [wr64] <;> omega
  have w5 : wrF .i64 3 = 3 := by rw [wr64] <;> omega
  rw [K71_eq]; unfold R71
  cases b1 with
  | false =>
    rw [iter_steps (st := fun i => ((false, (i : Int), ()), ())) (n := 0) (x := (1, ((false, 0, ()), ()))) ?_ ?_ ?_ (by omega)]
    · rfl
    · rfl
    · intro i hi; omega
    · simp [iltF_eq, ieqF_eq, opt_s, h1]
  | true =>
    cases b2 with
    | false =>
      rw [iter_steps (st := fun i => ((false, (i : Int), ()), ())) (n := 1) (x := (1, ((false, 1, ()), ()))) ?_ ?_ ?_ (by omega)]
      · rfl
      · rfl
      · intro i hi
        obtain rfl : i = 0 := by omega
        simp [iltF_eq, ieqF_eq, opt_s, h1, w3]
      · simp [iltF_eq, ieqF_eq, opt_s, h2]
    | true =>
      cases b3 with
      | false =>
        rw [iter_steps (st := fun i => ((false, (i : Int), ()), ())) (n := 2) (x := (1, ((false, 2, ()), ()))) ?_ ?_ ?_ (by omega)]
        · rfl
        · rfl
        · intro i hi
          have : i = 0 ∨ i = 1 := by omega
          rcases this with rfl | rfl <;> simp [iltF_eq, ieqF_eq, opt_s, h1, h2, w1, w3, w4]
        · simp [iltF_eq, ieqF_eq, opt_s, h3]
      | true =>
        rw [iter_steps (st := fun i => ((false, (i : Int), ()), ())) (n := 3) (x := (0, ((false, 3, ()), ()))) ?_ ?_ ?_ (by omega)]
        · rfl
        · rfl
        · intro i hi
          have : i = 0 ∨ i = 1 ∨ i = 2 := by omega
          rcases this with rfl | rfl | rfl <;> simp [iltF_eq, ieqF_eq, opt_s, h1, h2, h3, w1, w2, w3, w4, w5]
        · simp [iltF_eq]
end Go.Proofs.Ytfpbgiaiifcnlaa.pg
/- What choose's Start and When make of valid lines and heads. -/
namespace Go.Proofs.Ytfpbgiaiifcnlaa.pg
open Go Go.Fz Go.Fz.Sy
set_option linter.unusedVariables false
set_option linter.unusedSimpArgs false
/-- The class may start. -/
structure MayS (l : Line) (hs : List Part) (c : Nat) (t : Int) : Prop where
  full : ∃ x, hs[c]? = some x ∧ partOk x ∧ x.1.2.2.1 = (c : Int) ∧ x.2.1 * l.2.1 ≤ openF l.1 c (t + l.2.2)
  free : c ≥ 6 ∨ ∀ (j : Nat) x, hs[j]? = some x → j ≠ c → x.2.2 = false
theorem may_s {l : Line} {hs : List Part} (hl : lineOk l) (hh : headsOk hs) {c : Nat} (hc : c < 8) {t : Int} (t0 : 0 ≤ t) (t1 : t ≤ 600000000000) : ∃ b, K71 ((l, hs), (c : Int), t, ()) = some (b, ()) ∧ (b = true ↔ MayS l hs c t) := by
  have hx : hs[c]? = some (hs[c]'(by rw [hh.n8]; exact hc)) := List.getElem?_eq_getElem _
  generalize hs[c]'(by rw [hh.n8]; exact hc) = x at hx
  obtain ⟨b2, k2, f2, g2⟩ := K85_s (v := (l, hs)) hh.n8 c
  refine ⟨_, K71_s (K78_s (v := (l, hs)) hx) k2 (K79_s hl hh hx t0 t1), ?_⟩
  constructor
  · intro h
    simp only [Bool.and_eq_true, Bool.not_eq_true', decide_eq_true_eq] at h
    obtain ⟨⟨h1, h2⟩, h3⟩ := h
    refine ⟨⟨x, hx, ?_⟩, f2 h2⟩
    rcases hh.ps c x hx with rfl | ⟨p1, p2⟩
    · cases h1
    · exact ⟨p1, p2, h3⟩
  · rintro ⟨⟨y, hy, p1, p2, p3⟩, hf⟩
    rw [hx] at hy; cases hy
    have hb : b2 = true := by
      cases b2 with
      | true => rfl
      | false =>
        obtain ⟨j, z, hz, hne, hr⟩ := g2 rfl
        rcases hf with h6 | hf
        · exfalso
          rw [K85_eq] at k2; unfold R85 at k2
          rw [show iltF (c : Int) 6 = false by rw [iltF_eq]; simp; omega] at k2
          simp at k2
        · rw [hf j z hz hne] at hr; cases hr
    rw [isZ_ok p1, hb]
    simp [p3]
/-- Which class starts. -/
theorem K58_s {l : Line} {hs : List Part} (hl : lineOk l) (hh : headsOk hs) {t : Int} (t0 : 0 ≤ t) (t1 : t ≤ 549755813888) :
    (∃ c : Nat, K58 (l, hs, t, ()) = some ((c : Int), 0, ()) ∧ c < 8 ∧ MayS l hs c t ∧ ∀ d, c < d → d < 8 → ¬ MayS l hs d t) ∨ (K58 (l, hs, t, ()) = some (0, 4, ()) ∧ ∀ d, d < 8 → ¬ MayS l hs d t) := by
  rw [K58_eq]; unfold R58
  simp only [K66_s hl hh t0 t1, opt_s, ieqF_eq, beq_self_eq_true, Bool.not_true, cond_false]
  obtain ⟨x, hx, hj⟩ := iter_big (B := fun s1 : ((Int × (Int × (Int × (Int × Unit)))) × (Unit × (Unit × Unit))) =>
      bif !(iltF (s1.1.2.2.2.1) (0)) then opt (K71 (((l, hs), (s1.1.2.2.2.1, (s1.1.2.2.1, ()))))) fun x2 =>
        bif !x2.1 then some (.inr ((s1.1.1, (s1.1.2.1, (s1.1.2.2.1, ((wrF .i64 ((s1.1.2.2.2.1 - 1))), ())))), ((), ((), ()))))
        else some (.inl ((((0 + 1) + 1) + 1), ((s1.1.2.2.2.1, (0, (s1.1.2.2.1, (s1.1.2.2.2.1, ())))), ((), ((), ())))))
      else some (.inl (0, ((s1.1.1, (s1.1.2.1, (s1.1.2.2.1, (s1.1.2.2.2.1, ())))), ((), ((), ()))))))
    (fun s => ∃ k : Nat, s = ((0, (4, (t, ((k : Int) - 1, ())))), ((), ((), ()))) ∧ k ≤ 8 ∧ ∀ d, k ≤ d → d < 8 → ¬ MayS l hs d t)
    (fun x => (∃ c : Nat, ∃ y z, x = ((3 : Nat), (((c : Int), (0, y)), z)) ∧ c < 8 ∧ MayS l hs c t ∧ ∀ d, c < d → d < 8 → ¬ MayS l hs d t) ∨ (∃ y z, x = ((0 : Nat), ((0, (4, y)), z)) ∧ ∀ d, d < 8 → ¬ MayS l hs d t))
    (fun s => (s.1.2.2.2.1 + 1).toNat)
    (fun s hs' => by
      obtain ⟨k, rfl, hk, hno⟩ := hs'
      cases k with
      | zero =>
        left
        exact ⟨_, rfl, .inr ⟨_, _, rfl, fun d hd => hno d (Nat.zero_le _) hd⟩⟩
      | succ k =>
        have e1 : (((k + 1 : Nat) : Int) - 1) = (k : Int) := by omega
        rw [e1]
        obtain ⟨b, hb, hm⟩ := may_s hl hh (c := k) (by omega) t0 (t := t) (by omega)
        simp only
        rw [show iltF (k : Int) 0 = false by rw [iltF_eq]; exact decide_eq_false (by omega)]
        simp only [Bool.not_false, cond_true, hb, opt_s]
        cases b with
        | true =>
          left
          exact ⟨_, rfl, .inl ⟨k, _, _, rfl, by omega, hm.1 rfl, fun d h1 h2 => hno d (by omega) h2⟩⟩
        | false =>
          right
          have e2 : wrF .i64 ((k : Int) - 1) = (k : Int) - 1 := wr64 (by omega) (by omega)
          simp only [Bool.not_false, cond_true, e2]
          refine ⟨_, rfl, ⟨k, rfl, by omega, fun d h1 h2 hd => ?_⟩, by simp only; omega⟩
          by_cases hdk : d = k
          · subst hdk; exact absurd (hm.2 hd) (by simp)
          · exact hno d (by omega) h2 hd)
    (s := ((0, (4, (t, (7, ())))), ((), ((), ())))) ⟨8, rfl, by omega, fun d h1 h2 => by omega⟩ (by simp only; omega)
  rw [hx]
  simp only [opt_s]
  rcases hj with ⟨c, y, z, rfl, h1, h2, h3⟩ | ⟨y, z, rfl, h1⟩
  · left; exact ⟨c, rfl, h1, h2, h3⟩
  · right; exact ⟨rfl, h1⟩
/-- When a class may start. -/
theorem K67_s {l : Line} {hs : List Part} (hl : lineOk l) (hh : headsOk hs) {c : Nat} (hc : c < 8) {t : Int} (t0 : 0 ≤ t) (t1 : t ≤ 549755813888) :
    (∃ a, K67 ((l, hs), (c : Int), t, ()) = some (a, 0, ()) ∧ t ≤ a ∧ a ≤ t + 20000000 ∧ (MayS l hs c t → a = t)) ∨ (K67 ((l, hs), (c : Int), t, ()) = some (0, 4, ()) ∧ ¬ MayS l hs c t) := by
  have hx : hs[c]? = some (hs[c]'(by rw [hh.n8]; exact hc)) := List.getElem?_eq_getElem _
  generalize hs[c]'(by rw [hh.n8]; exact hc) = x at hx
  obtain ⟨b2, k2, f2, g2⟩ := K85_s (v := (l, hs)) hh.n8 c
  have l1 := hl.p0; have l2 := hl.p1; have l3 := hl.s0; have l4 := hl.s1
  have hb := hh.left hx
  have hm := mul_bd (a := x.2.1) (b := l.2.1) hb.1 (by omega) l1 l2
  have e1 : wrF .i64 (t + l.2.2) = t + l.2.2 := wr64 (by omega) (by omega)
  have e2 : wrF .i64 (x.2.1 * l.2.1) = x.2.1 * l.2.1 := wr64 (by omega) (by omega)
  obtain ⟨b, hb71, hmay⟩ := may_s hl hh hc t0 (t := t) (by omega)
  rw [K67_eq]; unfold R67
  simp only [K78_s (v := (l, hs)) hx, opt_s]
  cases hz : isZ x with
  | true =>
    right
    refine ⟨rfl, fun hM => ?_⟩
    obtain ⟨⟨y, hy, p1, _⟩, _⟩ := hM
    rw [hx] at hy; cases hy
    rw [isZ_ok p1] at hz; cases hz
  | false =>
    simp only [Bool.not_false, Bool.not_true, cond_false, k2, opt_s]
    cases b2 with
    | false =>
      right
      refine ⟨rfl, fun hM => ?_⟩
      have h7 := K71_s (K78_s (v := (l, hs)) hx) k2 (K79_s hl hh hx t0 (t := t) (by omega))
      rw [hb71] at h7
      have := hmay.2 hM
      subst this
      simp at h7
    | true =>
      simp only [Bool.not_true, cond_false, opt_s, show (Nat.beq 0 0) = true from rfl, cond_true, atI_get hx, e1, e2]
      rcases K86_s hl.g (c := (c : Int)) (t := t + l.2.2) (l := x.2.1 * l.2.1) (by omega) (by omega) (by omega) (by omega) (by omega) (by omega) with ⟨a, h1, h2, h3, h4, h5⟩ | ⟨h1, hno⟩
      · left
        have hcy := hl.g.c1
        have e3 : wrF .i64 (a - l.2.2) = a - l.2.2 := wr64 (by omega) (by omega)
        rw [h1]
        simp only [opt_s, ieqF_eq, beq_self_eq_true, Bool.not_true, cond_false, e3]
        refine ⟨_, rfl, by omega, by omega, fun hM => ?_⟩
        obtain ⟨⟨y, hy, _, _, p3⟩, _⟩ := hM
        rw [hx] at hy; cases hy
        have := h5 p3
        omega
      · right
        rw [h1]
        refine ⟨rfl, fun hM => ?_⟩
        obtain ⟨⟨y, hy, _, _, p3⟩, _⟩ := hM
        rw [hx] at hy; cases hy
        exact hno p3
/-- When any class may start. -/
theorem K51_s {l : Line} {hs : List Part} (hl : lineOk l) (hh : headsOk hs) {t : Int} (t0 : 0 ≤ t) (t1 : t ≤ 549755813888) :
    (∃ a, K51 (l, hs, t, ()) = some (a, 0, ()) ∧ t ≤ a ∧ a ≤ t + 20000000 ∧ ∀ c, c < 8 → MayS l hs c t → a = t) ∨ (K51 (l, hs, t, ()) = some (0, 4, ()) ∧ ∀ c, c < 8 → ¬ MayS l hs c t) := by
  rw [K51_eq]; unfold R51
  simp only [K66_s hl hh t0 t1, opt_s, ieqF_eq (0 : Int) 0, beq_self_eq_true, Bool.not_true, cond_false]
  obtain ⟨x, hx, hj⟩ := iter_big (B := fun s1 : ((Int × (Int × (Int × (Int × Unit)))) × (Unit × (Unit × Unit))) =>
      bif !(iltF (s1.1.2.2.2.1) (0)) then opt (K67 (((l, hs), (s1.1.2.2.2.1, (s1.1.1, ()))))) fun x2 =>
        opt (bif (ieqF (x2.2.1) (0)) then bif !(ieqF (s1.1.2.2.1) (0)) then some (0, ((x2.1, (0, ())), ((), ())))
            else bif (iltF (x2.1) (s1.1.2.1)) then some (0, ((x2.1, (0, ())), ((), ())))
              else some ((0 : Nat), ((s1.1.2.1, (s1.1.2.2.1, ())), ((), ())))
          else some (0, ((s1.1.2.1, (s1.1.2.2.1, ())), ((), ())))) fun x3 =>
        some (.inr ((s1.1.1, (x3.2.1.1, (x3.2.1.2.1, ((wrF .i64 ((s1.1.2.2.2.1 - 1))), ())))), ((), ((), ()))))
      else some (.inl ((0 : Nat), ((s1.1.1, (s1.1.2.1, (s1.1.2.2.1, (s1.1.2.2.2.1, ())))), ((), ((), ()))))))
    (fun s => ∃ (k : Nat) (a e : Int), s = ((t, (a, (e, ((k : Int) - 1, ())))), ((), ((), ()))) ∧ k ≤ 8 ∧ ((a = 0 ∧ e = 4 ∧ ∀ d, k ≤ d → d < 8 → ¬ MayS l hs d t) ∨ (e = 0 ∧ t ≤ a ∧ a ≤ t + 20000000 ∧ ∀ d, k ≤ d → d < 8 → MayS l hs d t → a = t)))
    (fun x => ∃ (a e : Int) (y : Int × Unit) (z : Unit × Unit × Unit), x = ((0 : Nat), ((t, (a, (e, y))), z)) ∧ ((a = 0 ∧ e = 4 ∧ ∀ d, d < 8 → ¬ MayS l hs d t) ∨ (e = 0 ∧ t ≤ a ∧ a ≤ t + 20000000 ∧ ∀ d, d < 8 → MayS l hs d t → a = t)))
    (fun s => (s.1.2.2.2.1 + 1).toNat)
    (fun s hs' => by
      obtain ⟨k, a, e, rfl, hk, hst⟩ := hs'
      cases k with
      | zero =>
        left
        refine ⟨_, rfl, a, e, _, _, rfl, ?_⟩
        rcases hst with ⟨h1, h2, h3⟩ | ⟨h1, h2, h3, h4⟩
        · exact .inl ⟨h1, h2, fun d hd => h3 d (Nat.zero_le _) hd⟩
        · exact .inr ⟨h1, h2, h3, fun d hd => h4 d (Nat.zero_le _) hd⟩
      | succ k =>
        right
        have e1 : (((k + 1 : Nat) : Int) - 1) = (k : Int) := by omega
        have e2 : wrF .i64 ((k : Int) - 1) = (k : Int) - 1 := wr64 (by omega) (by omega)
        have hlt0 : iltF (k : Int) 0 = false := by rw [iltF_eq]; exact decide_eq_false (by omega)
        rw [e1]
        simp only [hlt0, Bool.not_false, cond_true, e2]
        have hm : ((k : Int) - 1 + 1).toNat < ((k : Int) + 1).toNat := by omega
        rcases K67_s hl hh (c := k) (by omega) t0 t1 with ⟨b, h1, h2, h3, h4⟩ | ⟨h1, h2⟩
        · rw [h1]
          simp only [opt_s, show ieqF (0 : Int) 0 = true from rfl, cond_true]
          rcases hst with ⟨q1, q2, q3⟩ | ⟨q1, q2, q3, q4⟩
          · subst q2
            simp only [show ieqF (4 : Int) 0 = false from rfl, Bool.not_false, cond_true, opt_s]
            refine ⟨_, rfl, ⟨k, _, _, rfl, by omega, .inr ⟨rfl, h2, h3, fun d d1 d2 dM => ?_⟩⟩, hm⟩
            by_cases hdk : d = k
            · subst hdk; exact h4 dM
            · exact absurd dM (q3 d (by omega) d2)
          · subst q1
            simp only [show ieqF (0 : Int) 0 = true from rfl, Bool.not_true, cond_false, iltF_eq]
            by_cases hba : b < a
            · simp only [hba, decide_true, cond_true, opt_s]
              refine ⟨_, rfl, ⟨k, _, _, rfl, by omega, .inr ⟨rfl, h2, h3, fun d d1 d2 dM => ?_⟩⟩, hm⟩
              by_cases hdk : d = k
              · subst hdk; exact h4 dM
              · have := q4 d (by omega) d2 dM; omega
            · simp only [hba, decide_false, cond_false, opt_s]
              refine ⟨_, rfl, ⟨k, _, _, rfl, by omega, .inr ⟨rfl, q2, q3, fun d d1 d2 dM => ?_⟩⟩, hm⟩
              by_cases hdk : d = k
              · subst hdk; have := h4 dM; omega
              · exact q4 d (by omega) d2 dM
        · rw [h1]
          simp only [opt_s, show ieqF (4 : Int) 0 = false from rfl, cond_false]
          refine ⟨_, rfl, ⟨k, _, _, rfl, by omega, ?_⟩, hm⟩
          rcases hst with ⟨q1, q2, q3⟩ | ⟨q1, q2, q3, q4⟩
          · refine .inl ⟨q1, q2, fun d d1 d2 dM => ?_⟩
            by_cases hdk : d = k
            · subst hdk; exact h2 dM
            · exact q3 d (by omega) d2 dM
          · refine .inr ⟨q1, q2, q3, fun d d1 d2 dM => ?_⟩
            by_cases hdk : d = k
            · subst hdk; exact absurd dM h2
            · exact q4 d (by omega) d2 dM)
    (s := ((t, (0, (4, (7, ())))), ((), ((), ())))) ⟨8, 0, 4, rfl, by omega, .inl ⟨rfl, rfl, fun d h1 h2 => by omega⟩⟩ (by simp only; omega)
  rw [hx]
  simp only [opt_s]
  obtain ⟨a, e, y, z, rfl, hj⟩ := hj
  rcases hj with ⟨rfl, rfl, h3⟩ | ⟨rfl, h2, h3, h4⟩
  · right; exact ⟨rfl, h3⟩
  · left; exact ⟨a, rfl, h2, h3, h4⟩
end Go.Proofs.Ytfpbgiaiifcnlaa.pg
/- What the port's functions make of valid ports: heads, start, choose. -/
namespace Go.Proofs.Ytfpbgiaiifcnlaa.pg
open Go Go.Fz Go.Fz.Sy
set_option linter.unusedVariables false
set_option linter.unusedSimpArgs false
theorem rq_hd {q : Queue} (h : queueOk q) : rq q.2 = r1 (hd q) := by
  unfold hd
  cases hq : q.2 with
  | nil => rfl
  | cons x r =>
    simp only
    have hr : ∀ y ∈ r, r1 y = 0 := fun y hy => by
      obtain ⟨i, hi⟩ := List.getElem?_of_mem hy
      unfold r1
      cases hb : y.2.2 with
      | false => rfl
      | true =>
        have := h.rs (i + 1) y (by rw [hq]; simpa using hi) hb
        omega
    have h0 : ∀ l : List Part, (∀ y ∈ l, r1 y = 0) → (l.map r1).sum = 0 := fun l => by
      induction l with
      | nil => intro _; rfl
      | cons a l ih =>
        intro h
        rw [List.map_cons, List.sum_cons, h a (by simp), ih (fun y hy => h y (by simp [hy]))]; rfl
    unfold rq
    rw [List.map_cons, List.sum_cons, h0 r hr]; omega
theorem heads_ok {qs : List Queue} (h : qsOk qs) (hr : rT qs ≤ 1) : headsOk (qs.map hd) ∧ rq (qs.map hd) = rT qs := by
  have he : rq (qs.map hd) = rT qs := by
    unfold rq rT
    rw [List.map_map]
    congr 1
    refine List.map_congr_left fun q hq => ?_
    obtain ⟨i, hi⟩ := List.getElem?_of_mem hq
    exact (rq_hd (h.qs i q hi).1).symm
  refine ⟨⟨by simp [h.n8], fun i x hx => ?_, by omega⟩, he⟩
  simp only [List.getElem?_map, Option.map_eq_some_iff] at hx
  obtain ⟨q, hq, rfl⟩ := hx
  obtain ⟨h1, h2⟩ := h.qs i q hq
  unfold hd
  cases hq2 : q.2 with
  | nil => exact .inl rfl
  | cons y r => exact .inr ⟨h1.ps y (by rw [hq2]; simp), h2 y (by rw [hq2]; simp)⟩
theorem set_mid {α : Type} (A : List α) (y z : α) (n : Nat) : (A ++ List.replicate (n + 1) z).set A.length y = A ++ y :: List.replicate n z := by
  rw [List.set_append_right _ _ (Nat.le_refl _)]
  simp [List.replicate_succ]
theorem K52_s {p : Port} (h : qsOk p.2.2.1) : K52 (p, ()) = some (p.2.2.1.map hd, ()) := by
  have h8 := h.n8
  have hlen : ∀ i, i ≤ 8 → ((p.2.2.1.map hd).take i).length = i := fun i hi => by simp; omega
  rw [K52_eq]; unfold R52
  rw [show mkOk 8 8 56 = true from rfl, cond_true]
  rw [iter_steps (st := fun i => (((i : Int), ()), ((p.2.2.1.map hd).take i ++ List.replicate (8 - i) zP, ()))) (n := 8) (x := (0, (((8 : Int), ()), (p.2.2.1.map hd, ())))) ?_ ?_ ?_ (by omega)]
  · rfl
  · rfl
  · intro i hi
    have hx : p.2.2.1[i]? = some (p.2.2.1[i]'(by omega)) := List.getElem?_eq_getElem (by omega)
    generalize p.2.2.1[i]'(by omega) = q at hx
    obtain ⟨hq, _⟩ := h.qs i q hx
    have e4 : wrF .i64 ((i : Int) + 1) = ((i + 1 : Nat) : Int) := by rw [wr64] <;> omega
    have hlt : iltF (i : Int) ((p.2.2.1.length : Nat) : Int) = true := by rw [iltF_eq]; exact decide_eq_true (by omega)
    have hti : (p.2.2.1.map hd).take (i + 1) = (p.2.2.1.map hd).take i ++ [hd q] := by
      rw [List.take_add_one]; simp [hx]
    have h81 : 8 - i = (8 - (i + 1)) + 1 := by omega
    simp only [hlt, cond_true, atI_get hx, opt_s, K69_s hq, e4]
    cases he : q.2.isEmpty with
    | true =>
      have hz : hd q = zP := by unfold hd; cases hq2 : q.2 with
        | nil => rfl
        | cons a b => rw [hq2] at he; cases he
      simp only [Bool.not_true, cond_false, opt_s]
      rw [hti, hz, h81, List.replicate_succ]
      simp
    | false =>
      have hb := set_mid ((p.2.2.1.map hd).take i) (hd q) zP (8 - (i + 1))
      rw [hlen i (by omega)] at hb
      have hg : ((p.2.2.1.map hd).take i ++ List.replicate (8 - (i + 1) + 1) zP)[i]? = some zP := by
        rw [List.getElem?_append_right (by rw [hlen i (by omega)]; omega), hlen i (by omega)]; simp
      simp only [Bool.not_false, cond_true]
      rw [h81, atI_get hg]
      simp only [opt_s, Int.toNat_natCast, gl_eq, hg, hb]
      rw [hti]
      simp [h81]
  · have hlt : iltF ((8 : Nat) : Int) ((p.2.2.1.length : Nat) : Int) = false := by rw [iltF_eq]; exact decide_eq_false (by omega)
    simp only [hlt, cond_false]
    rw [List.take_of_length_le (by simp; omega)]
    simp
theorem copyL_full {α : Type} (l : List α) (z : α) : copyL (List.replicate l.length z) l = l := by
  unfold copyL; simp
theorem mkOk_8 {l : List Queue} (h : l.length = 8) : mkOk ((l.length : Nat) : Int) ((l.length : Nat) : Int) 32 = true := by rw [h]; rfl
def startP (p : Port) (c : Nat) (cap : Int) (x : Part) (r : List Part) (t : Int) : Port := (p.1, (p.2.1, (p.2.2.1.set c (cap, r), true, x, t, t + x.2.1 * p.1.2.1, 0)))
theorem K59_s {p : Port} (hl : lineOk p.1) (h : qsOk p.2.2.1) {c : Nat} {q : Queue} (hq : p.2.2.1[c]? = some q) {x : Part} {r : List Part} (hx : q.2 = x :: r) {t : Int} (t0 : 0 ≤ t) (t1 : t ≤ 600000000000) : K59 (p, (c : Int), t, ()) = some (startP p c q.1 x r t, ()) := by
  obtain ⟨h1, h2⟩ := h.qs c q hq
  have hp := h1.ps x (by rw [hx]; simp)
  have hb := hp.left
  have l1 := hl.p0; have l2 := hl.p1
  have hm := mul_bd (a := x.2.1) (b := p.1.2.1) (by omega) (by omega) l1 l2
  have e1 : wrF .i64 (x.2.1 * p.1.2.1) = x.2.1 * p.1.2.1 := wr64 (by omega) (by omega)
  have e2 : wrF .i64 (t + x.2.1 * p.1.2.1) = t + x.2.1 * p.1.2.1 := wr64 (by omega) (by omega)
  have hz := isZ_ok hp
  unfold isZ at hz
  rw [K59_eq]; unfold R59
  simp only [mkOk_8 h.n8, cond_true, Int.toNat_natCast, copyL_full, atI_get hq, gl_eq, hq, opt_s, K75_s h1 hx, ieqF_eq, beq_self_eq_true, Bool.not_true, cond_false, e1, e2]
  rw [hz]
  rfl
/-- Where a fragment may be cut. -/
theorem K60_s {l : Line} {hs : List Part} (hl : lineOk l) (hh : headsOk hs) {o b t : Int} (o0 : 84 ≤ o) (o1 : o ≤ 1542) (b0 : 0 ≤ b) (bt : b ≤ t) (tb : t ≤ b + o * l.2.1) (t1 : t ≤ 549755813888) :
    (∃ k : Int, K60 (l, hs, o, b, t, ()) = some (b + (k + 24) * l.2.1, o - k + 24, 0, ()) ∧ 64 ≤ k ∧ 64 ≤ o - k ∧ t - b ≤ k * l.2.1) ∨ K60 (l, hs, o, b, t, ()) = some (0, 0, 4, ()) := by
  have l1 := hl.p0; have l2 := hl.p1
  have hm := mul_bd (a := o) (b := l.2.1) (by omega) (by omega) l1 l2
  have c1 : iltF o 84 = false := by rw [iltF_eq]; exact decide_eq_false (by omega)
  have c2 : iltF 1542 o = false := by rw [iltF_eq]; exact decide_eq_false (by omega)
  have c3 : iltF b 0 = false := by rw [iltF_eq]; exact decide_eq_false (by omega)
  have c4 : iltF t b = false := by rw [iltF_eq]; exact decide_eq_false (by omega)
  have c5 : iltF (b + o * l.2.1) t = false := by rw [iltF_eq]; exact decide_eq_false (by omega)
  have e1 : wrF .i64 (o * l.2.1) = o * l.2.1 := wr64 (by omega) (by omega)
  have e2 : wrF .i64 (b + o * l.2.1) = b + o * l.2.1 := wr64 (by omega) (by omega)
  have e3 : wrF .i64 (t - b) = t - b := wr64 (by omega) (by omega)
  have e4 : wrF .i64 (t - b + l.2.1) = t - b + l.2.1 := wr64 (by omega) (by omega)
  have e5 : wrF .i64 (t - b + l.2.1 - 1) = t - b + l.2.1 - 1 := wr64 (by omega) (by omega)
  have hz : ieqF l.2.1 0 = false := by rw [ieqF_eq, beq_eq_false_iff_ne]; omega
  have hq0 : Int.tdiv (t - b + l.2.1 - 1) l.2.1 = (t - b + l.2.1 - 1) / l.2.1 := Int.tdiv_eq_ediv_of_nonneg (by omega)
  have hq1 : (t - b + l.2.1 - 1) / l.2.1 * l.2.1 + (t - b + l.2.1 - 1) % l.2.1 = t - b + l.2.1 - 1 := by
    have := Int.mul_ediv_add_emod (t - b + l.2.1 - 1) l.2.1
    rw [Int.mul_comm] at this; exact this
  have hq2 := Int.emod_nonneg (t - b + l.2.1 - 1) (show l.2.1 ≠ 0 by omega)
  have hq3 := Int.emod_lt_of_pos (t - b + l.2.1 - 1) (show 0 < l.2.1 by omega)
  have hq4 : 0 ≤ (t - b + l.2.1 - 1) / l.2.1 := Int.ediv_nonneg (by omega) (by omega)
  have hq5 : (t - b + l.2.1 - 1) / l.2.1 ≤ 1543 := by
    refine Int.le_of_lt_add_one (Int.ediv_lt_of_lt_mul (by omega) ?_)
    have : (1543 + 1) * l.2.1 = 1544 * l.2.1 := rfl
    have h2 : o * l.2.1 ≤ 1542 * l.2.1 := Int.mul_le_mul_of_nonneg_right o1 (by omega)
    omega
  have e6 : wrF .i64 (Int.tdiv (t - b + l.2.1 - 1) l.2.1) = (t - b + l.2.1 - 1) / l.2.1 := by rw [hq0]; exact wr64 (by omega) (by omega)
  generalize hk0 : (t - b + l.2.1 - 1) / l.2.1 = k0 at *
  have e7 : ∃ k, maxI 64 k0 = k ∧ 64 ≤ k ∧ k0 ≤ k ∧ k ≤ 1543 := by
    unfold maxI
    rw [iltF_eq]
    by_cases h : 64 < k0
    · exact ⟨k0, by simp [h], by omega, by omega, by omega⟩
    · exact ⟨64, by simp [h], by omega, by omega, by omega⟩
  obtain ⟨k, hk, hk1, hk2, hk3⟩ := e7
  have e8 : wrF .i64 (o - k) = o - k := wr64 (by omega) (by omega)
  have e9 : wrF .i64 (k + 24) = k + 24 := wr64 (by omega) (by omega)
  have hm2 := mul_bd (a := k + 24) (b := l.2.1) (by omega) (by omega) l1 l2
  have e10 : wrF .i64 ((k + 24) * l.2.1) = (k + 24) * l.2.1 := wr64 (by omega) (by omega)
  have e11 : wrF .i64 (b + (k + 24) * l.2.1) = b + (k + 24) * l.2.1 := wr64 (by omega) (by omega)
  have e12 : wrF .i64 (o - k + 24) = o - k + 24 := wr64 (by omega) (by omega)
  have hkt : t - b ≤ k * l.2.1 := by
    have : k0 * l.2.1 ≤ k * l.2.1 := Int.mul_le_mul_of_nonneg_right hk2 (by omega)
    omega
  rw [K60_eq]; unfold R60
  simp only [K66_s hl hh (show 0 ≤ t by omega) t1, opt_s, show ieqF (0 : Int) 0 = true from rfl, Bool.not_true, cond_false, e1, e2, e3, e4, e5, c1, c2, c3, c4, c5, show (Nat.beq 0 0) = true from rfl, cond_true, hz, e6, hk, e8, e9, e10, e11]
  by_cases ho : o - k < 64
  · right
    rw [show iltF (o - k) 64 = true by rw [iltF_eq]; exact decide_eq_true ho]
    rfl
  · rw [show iltF (o - k) 64 = false by rw [iltF_eq]; exact decide_eq_false ho]
    simp only [cond_false]
    obtain ⟨x, hx, hj⟩ := iter_big (B := fun s2 : (((Int × Int) × (Int × (View × (Int × (Int × (Int × (Int × Unit))))))) × (Unit × (Unit × Unit))) =>
            bif !(iltF (s2.1.2.2.2.2.2.2.1) (6)) then opt (opt (K78 ((s2.1.2.2.1, (s2.1.2.2.2.2.2.2.1, ())))) fun x3 =>
                bif !x3.1 then some ((0 + 1 : Nat), (((0, 0), (s2.1.1, (s2.1.2.1, (s2.1.2.2.1, (s2.1.2.2.2.1, (s2.1.2.2.2.2.1, (s2.1.2.2.2.2.2.1, (4, ())))))))), ((), ())))
                else opt (K79 ((s2.1.2.2.1, (s2.1.2.2.2.2.2.2.1, (s2.1.2.2.2.1, ()))))) fun x4 =>
                  bif !x4.1 then some ((0 + 1), (((0, 0), (s2.1.1, (s2.1.2.1, (s2.1.2.2.1, (s2.1.2.2.2.1, (s2.1.2.2.2.2.1, (s2.1.2.2.2.2.2.1, (4, ())))))))), ((), ())))
                  else some (0, (((0, 0), (s2.1.1, (s2.1.2.1, (s2.1.2.2.1, (s2.1.2.2.2.1, (s2.1.2.2.2.2.1, (s2.1.2.2.2.2.2.1, (0, ())))))))), ((), ())))) fun x5 =>
              bif (Nat.beq x5.1 0) then some (.inl ((((0 + 1) + 1) + 1 : Nat), (((x5.2.1.2.2.2.2.1, (wrF .i64 (((wrF .i64 ((x5.2.1.2.2.2.2.2.1 - x5.2.1.2.2.2.2.2.2.1))) + 24)))), (0, (x5.2.1.2.2.2.1, (x5.2.1.2.2.2.2.1, (x5.2.1.2.2.2.2.2.1, (x5.2.1.2.2.2.2.2.2.1, (s2.1.2.2.2.2.2.2.1, ()))))))), ((), ((), ())))))
              else bif (ieqF (x5.2.1.2.2.2.2.2.2.2.1) (0)) then some (.inl ((((0 + 1) + 1) + 1), ((x5.2.1.1, (0, (x5.2.1.2.2.2.1, (x5.2.1.2.2.2.2.1, (x5.2.1.2.2.2.2.2.1, (x5.2.1.2.2.2.2.2.2.1, (s2.1.2.2.2.2.2.2.1, ()))))))), ((), ((), ())))))
                else some (.inr ((x5.2.1.2.1, (x5.2.1.2.2.1, (x5.2.1.2.2.2.1, (x5.2.1.2.2.2.2.1, (x5.2.1.2.2.2.2.2.1, (x5.2.1.2.2.2.2.2.2.1, ((wrF .i64 ((s2.1.2.2.2.2.2.2.1 - 1))), ()))))))), ((), ((), ()))))
            else some (.inl (0, ((s2.1.1, (s2.1.2.1, (s2.1.2.2.1, (s2.1.2.2.2.1, (s2.1.2.2.2.2.1, (s2.1.2.2.2.2.2.1, (s2.1.2.2.2.2.2.2.1, ()))))))), ((), ((), ()))))))
      (fun s => ∃ c : Nat, s = (((0, 0), (4, ((l, hs), (b + (k + 24) * l.2.1, (o, (k, ((c : Int), ()))))))), ((), ((), ()))) ∧ 5 ≤ c ∧ c ≤ 7)
      (fun x => (∃ (j : Nat) (y : _) (z : _), x = (j, (((b + (k + 24) * l.2.1, o - k + 24), (0, y)), z))) ∨ (∃ (j : Nat) (y : _) (z : _), x = (j, (((0, 0), (4, y)), z))))
      (fun s => s.1.2.2.2.2.2.2.1.toNat)
      (fun s hs' => by
        obtain ⟨c, rfl, hc5, hc7⟩ := hs'
        by_cases h6 : (c : Int) < 6
        · left
          have h6' : iltF (c : Int) 6 = true := by rw [iltF_eq]; exact decide_eq_true h6
          simp only [h6', Bool.not_true, cond_false]
          exact ⟨_, rfl, .inr ⟨_, _, _, rfl⟩⟩
        · have hx : hs[c]? = some (hs[c]'(by rw [hh.n8]; omega)) := List.getElem?_eq_getElem _
          generalize hs[c]'(by rw [hh.n8]; omega) = x at hx
          have w : wrF .i64 ((c : Int) - 1) = ((c - 1 : Nat) : Int) := by rw [wr64] <;> omega
          have hlt : ((c - 1 : Nat) : Int).toNat < ((c : Nat) : Int).toNat := by omega
          have h6' : iltF (c : Int) 6 = false := by rw [iltF_eq]; exact decide_eq_false h6
          simp only [h6', Bool.not_false, cond_true, K78_s (v := (l, hs)) hx, K79_s hl hh hx (t := b + (k + 24) * l.2.1) (by omega) (by omega), opt_s]
          cases hz : isZ x with
          | true =>
            right
            simp only [Bool.not_true, Bool.not_false, cond_true, opt_s, show (Nat.beq 1 0) = false from rfl, cond_false, show ieqF (4 : Int) 0 = false from rfl, w]
            exact ⟨_, rfl, ⟨c - 1, rfl, by omega, by omega⟩, hlt⟩
          | false =>
            simp only [Bool.not_true, Bool.not_false, cond_false]
            by_cases hf : x.2.1 * l.2.1 ≤ openF l.1 (c : Int) (b + (k + 24) * l.2.1 + l.2.2)
            · left
              simp only [hf, decide_true, Bool.not_true, cond_false, opt_s, show (Nat.beq 0 0) = true from rfl, cond_true, e8, e12]
              exact ⟨_, rfl, .inl ⟨_, _, _, rfl⟩⟩
            · right
              simp only [hf, decide_false, Bool.not_false, cond_true, opt_s, show (Nat.beq 1 0) = false from rfl, cond_false, show ieqF (4 : Int) 0 = false from rfl, w]
              exact ⟨_, rfl, ⟨c - 1, rfl, by omega, by omega⟩, hlt⟩)
      (s := (((0, 0), (4, ((l, hs), (b + (k + 24) * l.2.1, (o, (k, (7, ()))))))), ((), ((), ())))) ⟨7, rfl, by omega, by omega⟩ (by simp only; omega)
    rw [hx]
    simp only [opt_s]
    rcases hj with ⟨j, y, z, rfl⟩ | ⟨j, y, z, rfl⟩
    · left
      refine ⟨k, ?_, hk1, by omega, hkt⟩
      simp only
      cases Nat.beq j 0 <;> cases Nat.beq j (0 + 1) <;> cases Nat.beq j (0 + 1 + 1) <;> rfl
    · right
      simp only
      cases Nat.beq j 0 <;> cases Nat.beq j (0 + 1) <;> cases Nat.beq j (0 + 1 + 1) <;> rfl
end Go.Proofs.Ytfpbgiaiifcnlaa.pg
/- What the port's steps make of valid ports: Choose, Arrive, End, Next; valid ports stay valid. -/
namespace Go.Proofs.Ytfpbgiaiifcnlaa.pg
open Go Go.Fz Go.Fz.Sy
set_option linter.unusedVariables false
set_option linter.unusedSimpArgs false
theorem sum_set {l : List Int} {i : Nat} {a b : Int} (h : l[i]? = some a) : (l.set i b).sum = l.sum - a + b := by
  induction l generalizing i with
  | nil => simp at h
  | cons x l ih =>
    cases i with
    | zero => simp at h; subst h; simp; omega
    | succ i => simp at h; simp [ih h]; omega
theorem rT_set {qs : List Queue} {c : Nat} {q q' : Queue} (h : qs[c]? = some q) : rT (qs.set c q') = rT qs - rq q.2 + rq q'.2 := by
  unfold rT
  rw [List.map_set]
  exact sum_set (by simp [h])
theorem rq_nn (l : List Part) : 0 ≤ rq l := (rq_all l).1
theorem rT_ge {qs : List Queue} : 0 ≤ rT qs := by
  unfold rT
  induction qs with
  | nil => simp
  | cons q r ih => simp; have := rq_nn q.2; omega
theorem rT_mem {qs : List Queue} {c : Nat} {q : Queue} (h : qs[c]? = some q) : rq q.2 ≤ rT qs := by
  have h1 := rT_set (q' := (0, [])) h
  have h2 := rT_ge (qs := qs.set c (0, []))
  have : rq ((0, []) : Queue).2 = 0 := rfl
  omega
theorem qsOk_set {qs : List Queue} (h : qsOk qs) {c : Nat} {q : Queue} (hq : queueOk q) (hc : ∀ x ∈ q.2, x.1.2.2.1 = (c : Int)) : qsOk (qs.set c q) := by
  refine ⟨by simp [h.n8], fun i q' hi => ?_⟩
  rw [List.getElem?_set] at hi
  split at hi
  · rename_i he
    subst he
    split at hi
    · cases hi; exact ⟨hq, hc⟩
    · cases hi
  · exact h.qs i q' hi
theorem partOk.l84 {x : Part} (h : partOk x) : 84 ≤ x.2.1 ∧ x.2.1 ≤ 1542 ∧ x.2.1 ≤ x.1.2.2.2.1 := by
  have := h.it.z0; have := h.it.z1
  rcases h.sh with ⟨h1, _⟩ | ⟨_, _, h1, h2⟩ <;> omega
/-- What choosing makes of a port. -/
inductive Chosen (p : Port) (t : Int) : Port → Prop
  | none (h : p.2.2.2.1 = false → ∀ c, c < 8 → ¬ MayS p.1 (p.2.2.1.map hd) c t) : Chosen p t (p.1, t, p.2.2)
  | start (c : Nat) (q : Queue) (x : Part) (r : List Part) (hb : p.2.2.2.1 = false) (hc : c < 8) (hq : p.2.2.1[c]? = some q) (hx : q.2 = x :: r) (hm : MayS p.1 (p.2.2.1.map hd) c t) : Chosen p t (startP (p.1, t, p.2.2) c q.1 x r t)
  | cut (k : Int) (hb : p.2.2.2.1 = true) (hp : pre p = true) (hr : p.2.2.2.2.2.2.2 = 0) (k1 : 64 ≤ k) (k2 : 64 ≤ p.2.2.2.2.1.2.1 - k) (k3 : t - p.2.2.2.2.2.1 ≤ k * p.1.2.1) :
      Chosen p t (p.1, t, p.2.2.1, true, p.2.2.2.2.1, p.2.2.2.2.2.1, p.2.2.2.2.2.1 + (k + 24) * p.1.2.1, p.2.2.2.2.1.2.1 - k + 24)
theorem K41_s {p : Port} (h : portOk p) {t : Int} (t0 : p.2.1 ≤ t) (t1 : t ≤ 549755813888) (tb : p.2.2.2.1 = true → t ≤ p.2.2.2.2.2.2.1) : ∃ p', K41 (p, t, ()) = some (p', ()) ∧ Chosen p t p' := by
  have n0 := h.n0
  have hh := (heads_ok h.q h.r1).1
  have h52 := K52_s (p := (p.1, t, p.2.2)) h.q
  simp only at h52
  rw [K41_eq]; unfold R41
  cases hb : p.2.2.2.1 with
  | false =>
    simp only [Bool.not_false, cond_true, h52, opt_s]
    rcases K58_s h.l hh (t := t) (by omega) t1 with ⟨c, k1, k2, k3, k4⟩ | ⟨k1, k2⟩
    · obtain ⟨x, hx, hp, hcl, hf⟩ := k3.full
      rw [List.getElem?_map, Option.map_eq_some_iff] at hx
      obtain ⟨q, hq, hqx⟩ := hx
      obtain ⟨y, r, hyr⟩ : ∃ y r, q.2 = y :: r := by
        cases hq2 : q.2 with
        | nil =>
          unfold hd at hqx; rw [hq2] at hqx
          have := isZ_ok hp
          rw [← hqx] at this
          cases this
        | cons y r => exact ⟨y, r, rfl⟩
      have h59 := K59_s (p := (p.1, t, p.2.2)) h.l h.q hq hyr (t := t) (by omega) (by omega)
      rw [k1]
      simp only [opt_s, show ieqF (0 : Int) 0 = true from rfl, Bool.not_true, cond_false, h59]
      exact ⟨_, rfl, .start c q y r hb k2 hq hyr k3⟩
    · rw [k1]
      simp only [opt_s, show ieqF (4 : Int) 0 = false from rfl, Bool.not_false, cond_true]
      exact ⟨_, rfl, .none fun _ => k2⟩
  | true =>
    have hs : sends p := by
      rcases h.s with hi | hs
      · rw [hi.b] at hb; cases hb
      · exact hs
    have hpre : pre (p.1, t, p.2.2) = pre p := rfl
    simp only [Bool.not_true, cond_false, K48_s, opt_s, hpre]
    cases hp : pre p with
    | false =>
      simp only [cond_false, opt_s]
      exact ⟨_, rfl, .none fun hbf => by rw [hb] at hbf; cases hbf⟩
    | true =>
      simp only [cond_true, ieqF_eq]
      by_cases hr : p.2.2.2.2.2.2.2 = 0
      · rw [show (p.2.2.2.2.2.2.2 == 0) = true by rw [hr]; rfl]
        have hend : p.2.2.2.2.2.2.1 = p.2.2.2.2.2.1 + p.2.2.2.2.1.2.1 * p.1.2.1 := by
          rcases hs.r with ⟨_, h2⟩ | ⟨_, h2, _⟩
          · exact h2
          · omega
        have hl := hs.s.l84
        simp only [cond_true, h52, opt_s]
        rcases K60_s h.l hh (o := p.2.2.2.2.1.2.1) (b := p.2.2.2.2.2.1) (t := t) hl.1 hl.2.1 hs.g0 (by have := hs.g1; omega) (by have := tb hb; omega) t1 with ⟨k, k1, k2, k3, k4⟩ | k1
        · rw [k1]
          simp only [opt_s, show ((0 : Int) == 0) = true from rfl, cond_true]
          exact ⟨_, rfl, .cut k hb hp hr k2 k3 k4⟩
        · rw [k1]
          simp only [opt_s, show ((4 : Int) == 0) = false from rfl, cond_false]
          exact ⟨_, rfl, .none fun hbf => by rw [hb] at hbf; cases hbf⟩
      · rw [show (p.2.2.2.2.2.2.2 == 0) = false by rw [beq_eq_false_iff_ne]; exact hr]
        simp only [cond_false, opt_s]
        exact ⟨_, rfl, .none fun hbf => by rw [hb] at hbf; cases hbf⟩
theorem queueOk_tail {q : Queue} (h : queueOk q) {x : Part} {r : List Part} (hx : q.2 = x :: r) : queueOk (q.1, r) ∧ rq r = 0 := by
  have hr : ∀ y ∈ r, y.2.2 = false := fun y hy => by
    obtain ⟨i, hi⟩ := List.getElem?_of_mem hy
    cases hb : y.2.2 with
    | false => rfl
    | true =>
      have := h.rs (i + 1) y (by rw [hx]; simpa using hi) hb
      omega
  have hn := h.n1
  have hf := h.fr
  rw [hx] at hn hf
  unfold frS at hf
  rw [List.map_cons, List.sum_cons] at hf
  have hb := fr1_bd (h.ps x (by rw [hx]; simp))
  refine ⟨⟨h.c0, h.c1, by simp at hn ⊢; omega, fun y hy => h.ps y (by rw [hx]; simp [hy]), fun i y hi hb => ?_, by unfold frS; simp only; omega⟩, ?_⟩
  · rw [hr y (List.mem_of_getElem? hi)] at hb; cases hb
  · have h0 : ∀ l : List Part, (∀ y ∈ l, y.2.2 = false) → rq l = 0 := fun l => by
      induction l with
      | nil => intro _; rfl
      | cons a l ih =>
        intro h
        have := ih (fun y hy => h y (by simp [hy]))
        unfold rq at this ⊢
        rw [List.map_cons, List.sum_cons, this]
        unfold r1; rw [h a (by simp)]; rfl
    exact h0 r hr
theorem Chosen.ok {p p' : Port} {t : Int} (hc : Chosen p t p') (h : portOk p) (t0 : p.2.1 ≤ t) (t1 : t ≤ 549755813888) (tb : p.2.2.2.1 = true → t ≤ p.2.2.2.2.2.2.1) : portOk p' := by
  have n0 := h.n0
  have l1 := h.l.p0; have l2 := h.l.p1
  cases hc with
  | none hno =>
    refine ⟨h.l, by show 0 ≤ t; omega, t1, h.q, h.r1, h.rp, ?_⟩
    rcases h.s with hi | hs
    · exact .inl ⟨hi.b, hi.s, hi.g, hi.e, hi.r⟩
    · exact .inr ⟨hs.b, hs.s, hs.g0, by have := hs.g1; show p.2.2.2.2.2.1 ≤ t; omega, tb hs.b, hs.r⟩
  | start c q x r hb hc hq hx hm =>
    obtain ⟨hqo, hcl⟩ := h.q.qs c q hq
    obtain ⟨hqt, hr0⟩ := queueOk_tail hqo hx
    have hp := hqo.ps x (by rw [hx]; simp)
    have hcx := hcl x (by rw [hx]; simp)
    have hrt : rT (p.2.2.1.set c (q.1, r)) = rT p.2.2.1 - rq q.2 + 0 := by rw [rT_set hq]; simp only [hr0]
    have hqn := rq_nn q.2
    have hr1 := h.r1
    have hl := hp.l84
    have hm0 := mul_bd (a := x.2.1) (b := p.1.2.1) (by omega) (by omega) l1 l2
    refine ⟨h.l, by show 0 ≤ t; omega, t1, qsOk_set h.q hqt (fun y hy => hcl y (by rw [hx]; simp [hy])), by show rT (p.2.2.1.set c (q.1, r)) ≤ 1; omega, fun hpre => ?_, .inr ⟨rfl, hp, by show 0 ≤ t; omega, Int.le_refl _, by show t ≤ t + x.2.1 * p.1.2.1; omega, .inl ⟨rfl, rfl⟩⟩⟩
    show rT (p.2.2.1.set c (q.1, r)) = 0
    have hc6 : (c : Int) < 6 := by
      unfold pre startP at hpre
      simp only [Bool.true_and, decide_eq_true_eq] at hpre
      omega
    rcases hm.free with h6 | hf
    · omega
    · -- the others have no rests
      have hall : rT p.2.2.1 = rq q.2 := by
        have h1 := rT_set (q' := (0, [])) hq
        have h2 : rT (p.2.2.1.set c (0, [])) = 0 := by
          have hz : ∀ l : List Queue, (∀ z ∈ l, rq z.2 = 0) → rT l = 0 := fun l => by
            induction l with
            | nil => intro _; rfl
            | cons a l ih =>
              intro h
              have := ih (fun y hy => h y (by simp [hy]))
              unfold rT at this ⊢
              rw [List.map_cons, List.sum_cons, this, h a (by simp)]; rfl
          refine hz _ fun z hz => ?_
          obtain ⟨j, hj⟩ := List.getElem?_of_mem hz
          rw [List.getElem?_set] at hj
          split at hj
          · split at hj
            · cases hj; rfl
            · cases hj
          · rename_i hne
            have h3 := hf j (hd z) (by rw [List.getElem?_map, hj]; rfl) (fun e => hne e.symm)
            rw [rq_hd (h.q.qs j z hj).1]
            unfold r1; rw [h3]; rfl
        have : rq ((0, []) : Queue).2 = 0 := rfl
        omega
      omega
  | cut k hb hp hr k1 k2 k3 =>
    have hs : sends p := by
      rcases h.s with hi | hs
      · rw [hi.b] at hb; cases hb
      · exact hs
    have hl := hs.s.l84
    have hcl : p.2.2.2.2.1.1.2.2.1 < 6 := by
      unfold pre at hp
      simp only [Bool.and_eq_true, decide_eq_true_eq] at hp
      exact hp.2
    have hk : k * p.1.2.1 ≤ (k + 24) * p.1.2.1 := Int.mul_le_mul_of_nonneg_right (by omega) (by omega)
    refine ⟨h.l, by show 0 ≤ t; omega, t1, h.q, h.r1, fun _ => h.rp hp, .inr ⟨rfl, hs.s, hs.g0, by have := hs.g1; show p.2.2.2.2.2.1 ≤ t; omega, ?_, .inr ⟨hcl, ?_, ?_, ?_⟩⟩⟩
    · show t ≤ p.2.2.2.2.2.1 + (k + 24) * p.1.2.1
      omega
    · show 88 ≤ p.2.2.2.2.1.2.1 - k + 24
      omega
    · show p.2.2.2.2.1.2.1 - k + 24 ≤ p.2.2.2.2.1.2.1 - 40
      omega
    · show p.2.2.2.2.2.1 + (k + 24) * p.1.2.1 = p.2.2.2.2.2.1 + (p.2.2.2.2.1.2.1 - (p.2.2.2.2.1.2.1 - k + 24) + 48) * p.1.2.1
      have : p.2.2.2.2.1.2.1 - (p.2.2.2.2.1.2.1 - k + 24) + 48 = k + 24 := by omega
      rw [this]
theorem K37_s {p : Port} {t : Int} (t0 : p.2.1 ≤ t) (t1 : t ≤ 549755813888) (tb : p.2.2.2.1 = true → t ≤ p.2.2.2.2.2.2.1) : K37 (p, t, ()) = some (true, ()) := by
  rw [K37_eq]; unfold R37
  rw [show iltF t p.2.1 = false by rw [iltF_eq]; exact decide_eq_false (by omega), show iltF 549755813888 t = false by rw [iltF_eq]; exact decide_eq_false (by omega)]
  cases hb : p.2.2.2.1 with
  | false => rfl
  | true =>
    rw [show iltF p.2.2.2.2.2.2.1 t = false by rw [iltF_eq]; exact decide_eq_false (by have := tb hb; omega)]
    rfl
theorem K21_s {p : Port} (h : portOk p) {t : Int} (t0 : p.2.1 ≤ t) (t1 : t ≤ 549755813888) (tb : p.2.2.2.1 = true → t ≤ p.2.2.2.2.2.2.1) : ∃ p', K21 (p, t, ()) = some (p', 0, ()) ∧ Chosen p t p' := by
  obtain ⟨p', h1, h2⟩ := K41_s h t0 t1 tb
  refine ⟨p', ?_, h2⟩
  rw [K21_eq]; unfold R21
  simp only [K12_s h, K37_s t0 t1 tb, h1, opt_s, show ieqF (0 : Int) 0 = true from rfl, Bool.not_true, cond_false]
/-- Arrivals. -/
def arrP (p : Port) (c : Nat) (q : Queue) (x : Item) (t : Int) : Port := (p.1, t, p.2.2.1.set c (q.1, q.2 ++ [(x, x.2.2.2.1, false)]), p.2.2.2)
theorem K20_s {p : Port} (h : portOk p) {t : Int} (t0 : p.2.1 ≤ t) (t1 : t ≤ 549755813888) (tb : p.2.2.2.1 = true → t ≤ p.2.2.2.2.2.2.1) {x : Item} (hx : itemOk x) {c : Nat} {q : Queue} (hc : x.2.2.1 = (c : Int)) (hq : p.2.2.1[c]? = some q) (ho : ocS q.2 + x.2.2.2.1 ≤ q.1) :
    K20 (p, t, x, ()) = some (arrP p c q x t, true, 0, ()) := by
  obtain ⟨h1, h2⟩ := h.q.qs c q hq
  have h40 : K40 (p, t, x, ()) = some (arrP p c q x t, true, ()) := by
    rw [K40_eq]; unfold R40
    simp only [mkOk_8 h.q.n8, cond_true, Int.toNat_natCast, copyL_full, hc, atI_get hq, gl_eq, hq, opt_s, K57_s h1 hx ho, show ieqF (0 : Int) 0 = true from rfl, Bool.not_true, cond_false, show (Nat.beq 0 0) = true from rfl]
    rfl
  rw [K20_eq]; unfold R20
  simp only [K12_s h, K37_s t0 t1 tb, K39_s hx, h40, opt_s, show ieqF (0 : Int) 0 = true from rfl, Bool.not_true, cond_false]
theorem frS_le {l : List Part} (h : ∀ x ∈ l, partOk x) : frS l ≤ ocS l := by
  induction l with
  | nil => exact Int.le_refl _
  | cons a l ih =>
    have := ih (fun x hx => h x (by simp [hx]))
    have h2 := (h a (by simp)).left
    unfold frS ocS at this ⊢
    simp only [List.map_cons, List.sum_cons]
    have : fr1 a ≤ a.2.1 := by unfold fr1; split <;> omega
    omega
theorem arr_ok {p : Port} (h : portOk p) {t : Int} (t0 : p.2.1 ≤ t) (t1 : t ≤ 549755813888) (tb : p.2.2.2.1 = true → t ≤ p.2.2.2.2.2.2.1) {x : Item} (hx : itemOk x) {c : Nat} {q : Queue} (hc : x.2.2.1 = (c : Int)) (hq : p.2.2.1[c]? = some q) (ho : ocS q.2 + x.2.2.2.1 ≤ q.1) (hn : q.2.length < 1000) : portOk (arrP p c q x t) := by
  obtain ⟨h1, h2⟩ := h.q.qs c q hq
  have n0 := h.n0
  have hnew : partOk (x, x.2.2.2.1, false) := ⟨hx, .inl ⟨rfl, rfl⟩⟩
  have hq' : queueOk (q.1, q.2 ++ [(x, x.2.2.2.1, false)]) := by
    refine ⟨h1.c0, h1.c1, by simp; omega, fun y hy => ?_, fun i y hi hb => ?_, ?_⟩
    · rcases List.mem_append.1 hy with hy | hy
      · exact h1.ps y hy
      · simp at hy; subst hy; exact hnew
    · by_cases hl : i < q.2.length
      · rw [List.getElem?_append_left hl] at hi; exact h1.rs i y hi hb
      · rw [List.getElem?_append_right (by omega)] at hi
        have := List.mem_of_getElem? hi
        simp at this; subst this; cases hb
    · have := frS_le h1.ps
      unfold frS at this ⊢
      simp only [List.map_append, List.sum_append, List.map_cons, List.sum_cons, List.map_nil, List.sum_nil]
      show _ + (fr1 (x, x.2.2.2.1, false) + 0) ≤ q.1
      have hf : fr1 (x, x.2.2.2.1, false) = x.2.2.2.1 := rfl
      omega
  have hr : rq (q.2 ++ [(x, x.2.2.2.1, false)]) = rq q.2 := by
    unfold rq; simp [r1]
  have hT : rT (p.2.2.1.set c (q.1, q.2 ++ [(x, x.2.2.2.1, false)])) = rT p.2.2.1 := by
    rw [rT_set hq]; simp only [hr]; omega
  refine ⟨h.l, by show 0 ≤ t; omega, t1, qsOk_set h.q hq' (fun y hy => ?_), by show rT (p.2.2.1.set c _) ≤ 1; rw [hT]; exact h.r1, fun hp => by show rT (p.2.2.1.set c _) = 0; rw [hT]; exact h.rp hp, ?_⟩
  · rcases List.mem_append.1 hy with hy | hy
    · exact h2 y hy
    · simp at hy; subst hy; exact hc
  · rcases h.s with hi | hs
    · exact .inl ⟨hi.b, hi.s, hi.g, hi.e, hi.r⟩
    · exact .inr ⟨hs.b, hs.s, hs.g0, by have := hs.g1; show p.2.2.2.2.2.1 ≤ t; omega, tb hs.b, hs.r⟩
/-- The end of a transmission. -/
def doneP (p : Port) (t : Int) : Port := (p.1, t, p.2.2.1, false, zP, 0, 0, 0)
def backP (p : Port) (c : Nat) (q : Queue) (t : Int) : Port := (p.1, t, p.2.2.1.set c (q.1, (p.2.2.2.2.1.1, p.2.2.2.2.2.2.2, true) :: q.2), false, zP, 0, 0, 0)
theorem back_q {p : Port} (h : portOk p) (hs : sends p) (hr : p.2.2.2.2.2.2.2 ≠ 0) : ∃ (c : Nat) (q : Queue), p.2.2.2.2.1.1.2.2.1 = (c : Int) ∧ c < 6 ∧ p.2.2.1[c]? = some q ∧ rT p.2.2.1 = 0 ∧ partOk (p.2.2.2.2.1.1, p.2.2.2.2.2.2.2, true) ∧ (∀ y, q.2[0]? = some y → y.2.2 = false) := by
  have hl := hs.s.l84
  rcases hs.r with ⟨h1, _⟩ | ⟨h1, h2, h3, h4⟩
  · exact absurd h1 hr
  · have hc0 := hs.s.it.c0
    obtain ⟨c, hc⟩ := Int.eq_ofNat_of_zero_le hc0
    have hc6 : c < 6 := by omega
    have hq : p.2.2.1[c]? = some (p.2.2.1[c]'(by have := h.q.n8; omega)) := List.getElem?_eq_getElem _
    have hpre : pre p = true := by unfold pre; rw [hs.b]; simp [h1]
    have hT := h.rp hpre
    refine ⟨c, _, hc, hc6, hq, hT, ⟨hs.s.it, .inr ⟨rfl, by show p.2.2.2.2.1.1.2.2.1 ≤ 5; omega, h2, ?_⟩⟩, fun y hy => ?_⟩
    · show p.2.2.2.2.2.2.2 ≤ p.2.2.2.2.1.1.2.2.2.1 - 40
      omega
    · have hm := rT_mem hq
      have hn := rq_nn (p.2.2.1[c]'(by have := h.q.n8; omega)).2
      rw [rq_hd (h.q.qs c _ hq).1] at hm hn
      have hz : r1 (hd (p.2.2.1[c]'(by have := h.q.n8; omega))) = 0 := by omega
      unfold hd at hz
      cases hq2 : (p.2.2.1[c]'(by have := h.q.n8; omega)).2 with
      | nil => rw [hq2] at hy; cases hy
      | cons a l =>
        rw [hq2] at hy hz
        simp at hy hz
        subst hy
        unfold r1 at hz
        cases hb : a.2.2 with
        | false => rfl
        | true => rw [hb] at hz; simp at hz
theorem K19_s {p : Port} (h : portOk p) (hs : sends p) {t : Int} (ht : t = p.2.2.2.2.2.2.1) (t1 : t ≤ 549755813888) :
    (p.2.2.2.2.2.2.2 = 0 ∧ K19 (p, t, ()) = some (doneP p t, p.2.2.2.2.1.1, true, 0, ())) ∨
    (p.2.2.2.2.2.2.2 ≠ 0 ∧ ∃ (c : Nat) (q : Queue), p.2.2.2.2.1.1.2.2.1 = (c : Int) ∧ p.2.2.1[c]? = some q ∧ K19 (p, t, ()) = some (backP p c q t, zI, false, 0, ())) := by
  have e := hs.e
  have k37 := K37_s (p := p) (t := t) (by omega) t1 (fun _ => by omega)
  by_cases hr : p.2.2.2.2.2.2.2 = 0
  · left
    refine ⟨hr, ?_⟩
    have h38 : K38 (p, t, ()) = some (doneP p t, p.2.2.2.2.1.1, true, ()) := by
      rw [K38_eq]; unfold R38
      rw [show ieqF p.2.2.2.2.2.2.2 0 = true by rw [hr]; rfl]
      rfl
    rw [K19_eq]; unfold R19
    simp only [K12_s h, opt_s, show ieqF (0 : Int) 0 = true from rfl, Bool.not_true, cond_false, hs.b, show ieqF t p.2.2.2.2.2.2.1 = true by rw [ieqF_eq, ht]; simp, k37, show (Nat.beq 0 0) = true from rfl, cond_true, h38]
  · right
    obtain ⟨c, q, hc, hc6, hq, hT, hp, h0⟩ := back_q h hs hr
    refine ⟨hr, c, q, hc, hq, ?_⟩
    have h38 : K38 (p, t, ()) = some (backP p c q t, zI, false, ()) := by
      rw [K38_eq]; unfold R38
      rw [show ieqF p.2.2.2.2.2.2.2 0 = false by rw [ieqF_eq, beq_eq_false_iff_ne]; exact hr]
      simp only [cond_false, mkOk_8 h.q.n8, cond_true, Int.toNat_natCast, copyL_full, hc, atI_get hq, gl_eq, hq, opt_s, K55_s (h.q.qs c q hq).1 hp rfl h0, show ieqF (0 : Int) 0 = true from rfl, Bool.not_true]
      rfl
    rw [K19_eq]; unfold R19
    simp only [K12_s h, opt_s, show ieqF (0 : Int) 0 = true from rfl, Bool.not_true, cond_false, hs.b, show ieqF t p.2.2.2.2.2.2.1 = true by rw [ieqF_eq, ht]; simp, k37, show (Nat.beq 0 0) = true from rfl, cond_true, h38]
theorem done_ok {p : Port} (h : portOk p) {t : Int} (t0 : 0 ≤ t) (t1 : t ≤ 549755813888) : portOk (doneP p t) :=
  ⟨h.l, t0, t1, h.q, h.r1, (fun hp => by cases hp), .inl ⟨rfl, rfl, rfl, rfl, rfl⟩⟩
theorem back_ok {p : Port} (h : portOk p) (hs : sends p) (hr : p.2.2.2.2.2.2.2 ≠ 0) {c : Nat} {q : Queue} (hc : p.2.2.2.2.1.1.2.2.1 = (c : Int)) (hq : p.2.2.1[c]? = some q) (hn : q.2.length < 1000) {t : Int} (t0 : 0 ≤ t) (t1 : t ≤ 549755813888) : portOk (backP p c q t) := by
  obtain ⟨c', q', hc', hc6, hq', hT, hp, h0⟩ := back_q h hs hr
  have : c' = c := by omega
  subst this
  rw [hq] at hq'; cases hq'
  obtain ⟨h1, h2⟩ := h.q.qs c' q hq
  have hqn : queueOk (q.1, (p.2.2.2.2.1.1, p.2.2.2.2.2.2.2, true) :: q.2) := by
    refine ⟨h1.c0, h1.c1, by simp; omega, fun y hy => ?_, fun i y hi hb => ?_, ?_⟩
    · rcases List.mem_cons.1 hy with rfl | hy
      · exact hp
      · exact h1.ps y hy
    · cases i with
      | zero => rfl
      | succ i =>
        have hi : q.2[i]? = some y := by simpa using hi
        have := h1.rs i y hi hb
        subst this
        rw [h0 y hi] at hb; cases hb
    · have := h1.fr
      unfold frS at this ⊢
      simp only [List.map_cons, List.sum_cons]
      have : fr1 (p.2.2.2.2.1.1, p.2.2.2.2.2.2.2, true) = 0 := rfl
      omega
  have hrt : rT (p.2.2.1.set c' (q.1, (p.2.2.2.2.1.1, p.2.2.2.2.2.2.2, true) :: q.2)) = 1 := by
    rw [rT_set hq]
    have : rq ((p.2.2.2.2.1.1, p.2.2.2.2.2.2.2, true) :: q.2) = 1 + rq q.2 := by
      unfold rq; rw [List.map_cons, List.sum_cons]; rfl
    simp only [this]; omega
  refine ⟨h.l, t0, t1, qsOk_set h.q hqn (fun y hy => ?_), by show rT (p.2.2.1.set c' _) ≤ 1; omega, (fun hp => by cases hp), .inl ⟨rfl, rfl, rfl, rfl, rfl⟩⟩
  rcases List.mem_cons.1 hy with rfl | hy
  · exact hc
  · exact h2 y hy
theorem K18_s {p : Port} (h : portOk p) : (∃ a, K18 (p, ()) = some (a, 0, ()) ∧ p.2.1 ≤ a ∧ (p.2.2.2.1 = true → a = p.2.2.2.2.2.2.1) ∧ (p.2.2.2.1 = false → a ≤ p.2.1 + 20000000)) ∨ (K18 (p, ()) = some (0, 4, ()) ∧ p.2.2.2.1 = false) := by
  have hh := (heads_ok h.q h.r1).1
  rw [K18_eq]; unfold R18
  simp only [K12_s h, opt_s, show ieqF (0 : Int) 0 = true from rfl, Bool.not_true, cond_false]
  rw [K36_eq]; unfold R36
  cases hb : p.2.2.2.1 with
  | true =>
    have hs : sends p := by
      rcases h.s with hi | hs
      · rw [hi.b] at hb; cases hb
      · exact hs
    left
    exact ⟨_, rfl, hs.e, fun _ => rfl, fun hf => by cases hf⟩
  | false =>
    simp only [cond_false, K52_s h.q, opt_s]
    rcases K51_s h.l hh h.n0 h.n1 with ⟨a, k1, k2, k3, k4⟩ | ⟨k1, k2⟩
    · left
      rw [k1]
      exact ⟨a, rfl, k2, fun hf => (Bool.noConfusion hf), fun _ => k3⟩
    · right
      rw [k1]
      exact ⟨rfl, by simp⟩
end Go.Proofs.Ytfpbgiaiifcnlaa.pg
/- New ports, drawn frames. -/
namespace Go.Proofs.Ytfpbgiaiifcnlaa.pg
open Go Go.Fz Go.Fz.Sy
set_option linter.unusedVariables false
set_option linter.unusedSimpArgs false
abbrev Come := Int × Item
abbrev Frame := Int × Int × Int
theorem K26_s {c : Int} (h0 : 0 ≤ c) (h1 : c ≤ 65536) : K26 (c, ()) = some ((c, []), 0, ()) := by
  rw [K26_eq]; unfold R26
  simp only [K44_s, opt_s, h0, h1, decide_true, Bool.and_self, Bool.not_true, cond_false]
def newP (l : Line) : Port := (l, 0, List.replicate 8 (65536, []), false, zP, 0, 0, 0)
theorem K15_s : K15 (65536, ()) = some (List.replicate 8 65536, ()) := by rw [K15_eq]; rfl
theorem K8_s {l : Line} (h : lineOk l) : K8 (l, List.replicate 8 65536, ()) = some (newP l, 0, ()) := by
  rw [K8_eq]; unfold R8
  simp only [K25_s h, opt_s, show ieqF (0 : Int) 0 = true from rfl, Bool.not_true, cond_false, List.length_replicate, show ieqF ((8 : Nat) : Int) 8 = true from rfl, show mkOk 0 8 32 = true from rfl, cond_true, show Int.toNat 0 = 0 from rfl, List.replicate_zero]
  rw [iter_steps (st := fun i => ((((([], 0), 0, 0), 0, [], false, ((0, 0, 0, 0, 0), 0, false), 0, 0, 0), 0, (i : Int), ()), (some (List.replicate i ((65536 : Int), ([] : List Part))), ()))) (n := 8) (x := (0, ((((([], 0), 0, 0), 0, [], false, ((0, 0, 0, 0, 0), 0, false), 0, 0, 0), 0, ((8 : Nat) : Int), ()), (some (List.replicate 8 ((65536 : Int), ([] : List Part))), ())))) ?_ ?_ ?_ (by omega)]
  · rfl
  · rfl
  · intro i hi
    have hx : (List.replicate 8 (65536 : Int))[i]? = some 65536 := by rw [List.getElem?_replicate]; simp [hi]
    have hlt : iltF (i : Int) ((8 : Nat) : Int) = true := by rw [iltF_eq]; exact decide_eq_true (by omega)
    have e4 : wrF .i64 ((i : Int) + 1) = ((i + 1 : Nat) : Int) := by rw [wr64] <;> omega
    simp only [hlt, cond_true, atI_get hx, opt_s, K26_s (c := 65536) (by omega) (by omega), show ieqF (0 : Int) 0 = true from rfl, Bool.not_true, cond_false, e4, List.length_replicate, List.length_cons, List.length_nil]
    rw [appOk_s (by omega) (by omega)]
    simp only [cond_true]
    rw [List.replicate_succ']
  · rfl
theorem newP_ok {l : Line} (h : lineOk l) : portOk (newP l) := by
  have hq : ∀ (i : Nat) q, (List.replicate 8 ((65536 : Int), ([] : List Part)))[i]? = some q → q = (65536, []) := fun i q hi => by
    have := List.mem_of_getElem? hi
    simpa using this
  refine ⟨h, Int.le_refl 0, by show (0 : Int) ≤ 549755813888; omega, ⟨rfl, fun i q hi => ?_⟩, by show rT (List.replicate 8 (65536, [])) ≤ 1; decide, fun hp => (by show rT (List.replicate 8 (65536, [])) = 0; decide), .inl ⟨rfl, rfl, rfl, rfl, rfl⟩⟩
  have := hq i q hi
  subst this
  exact ⟨⟨by decide, by decide, by decide, fun x hx => (by cases hx), fun i x hx => (by simp at hx), by decide⟩, fun x hx => (by cases hx)⟩
/-! ### Frames -/
structure frOk (x : Frame) : Prop where
  w0 : 0 ≤ x.1
  w1 : x.1 ≤ 65535
  c0 : 0 ≤ x.2.1
  c1 : x.2.1 ≤ 255
  z0 : 0 ≤ x.2.2
  z1 : x.2.2 ≤ 65535
/-- Frames that come, in order. -/
structure comesOk (l : List Come) (i0 : Nat) (lo hi : Int) : Prop where
  it : ∀ (j : Nat) c, l[j]? = some c → itemOk c.2 ∧ c.2.2.1 = ((i0 + j : Nat) : Int)
  lo : ∀ c ∈ l, lo ≤ c.1
  hi : ∀ c ∈ l, c.1 ≤ hi
  so : l.Pairwise fun a b => a.1 ≤ b.1
theorem minI_nat (a b : Nat) : minI (a : Int) (b : Int) = ((min a b : Nat) : Int) := by
  unfold minI
  rw [iltF_eq]
  by_cases h : (b : Int) < (a : Int)
  · rw [decide_eq_true h, cond_true]; congr 1; omega
  · rw [decide_eq_false h, cond_false]; congr 1; omega
theorem cut_min {α : Type} (l : List α) (n : Nat) : cutI l none (some (minI ((l.length : Nat) : Int) (n : Int))) none = some (l.take n) := by
  rw [minI_nat, cutI_to _ _ (Nat.min_le_left _ _)]
  congr 1
  rw [List.take_eq_take_iff]; omega
def frItem (x : Frame) (i : Nat) : Item := (0, (i : Int), Int.tmod x.2.1 8, 84 + Int.tmod x.2.2 1459, 0)
theorem fr_item {x : Frame} (h : frOk x) {i : Nat} (hi : i ≤ 16) : itemOk (frItem x i) ∧ wrF .i64 (Int.tmod x.2.1 8) = Int.tmod x.2.1 8 ∧ wrF .i64 (84 + Int.tmod x.2.2 1459) = 84 + Int.tmod x.2.2 1459 := by
  have a1 : 0 ≤ Int.tmod x.2.1 8 := Int.tmod_nonneg _ h.c0
  have a2 : Int.tmod x.2.1 8 < 8 := Int.tmod_lt_of_pos _ (by omega)
  have b1 : 0 ≤ Int.tmod x.2.2 1459 := Int.tmod_nonneg _ h.z0
  have b2 : Int.tmod x.2.2 1459 < 1459 := Int.tmod_lt_of_pos _ (by omega)
  refine ⟨⟨?_, ?_, ?_, ?_, ?_, ?_, ?_, ?_, ?_, ?_⟩, wr64 (by omega) (by omega), wr64 (by omega) (by omega)⟩ <;> simp only [frItem] <;> omega
theorem comes_snoc {l : List Come} {at_ at2 : Int} {x : Item} (h : comesOk l 0 0 at_) (h0 : at_ ≤ at2) (hp : 0 ≤ at_) (hx : itemOk x) (hs : x.2.1 = ((l.length : Nat) : Int)) : comesOk (l ++ [(at2, x)]) 0 0 at2 := by
  refine ⟨fun j c hj => ?_, fun c hc => ?_, fun c hc => ?_, ?_⟩
  · by_cases hl : j < l.length
    · rw [List.getElem?_append_left hl] at hj; exact h.it j c hj
    · rw [List.getElem?_append_right (by omega)] at hj
      have hj0 := (List.getElem?_eq_some_iff.1 hj).1
      simp at hj0
      have : j - l.length = 0 := by omega
      rw [this] at hj
      simp at hj
      subst hj
      refine ⟨hx, ?_⟩
      rw [hs]; omega
  · rcases List.mem_append.1 hc with hc | hc
    · exact h.lo c hc
    · simp at hc; subst hc; show 0 ≤ at2; omega
  · rcases List.mem_append.1 hc with hc | hc
    · have := h.hi c hc; omega
    · simp at hc; subst hc; exact Int.le_refl _
  · rw [List.pairwise_append]
    refine ⟨h.so, List.pairwise_singleton _ _, fun a ha b hb => ?_⟩
    simp at hb; subst hb
    have := h.hi a ha; show a.1 ≤ at2; omega
theorem K13_s {l : List Frame} (h : ∀ x ∈ l, frOk x) : ∃ (cs : List Come) (last : Int), K13 (l, ()) = some (cs, last, ()) ∧ comesOk cs 0 0 last ∧ cs.length = min 16 l.length ∧ 0 ≤ last ∧ last ≤ 1048560 := by
  have key : Lands (K13 (l, ())) (fun r => comesOk r.1 0 0 r.2.1 ∧ r.1.length = min 16 l.length ∧ 0 ≤ r.2.1 ∧ r.2.1 ≤ 1048560) := by
    have htl : (l.take 16).length = min 16 l.length := List.length_take
    rw [K13_eq]; unfold R13
    refine ends_opt (ends_of (cut_min l 16) ?_)
    refine ends_opt' (J := fun x => comesOk (x.2.2.1.getD []) 0 0 x.2.1.1 ∧ (x.2.2.1.getD []).length = min 16 l.length ∧ 0 ≤ x.2.1.1 ∧ x.2.1.1 ≤ 1048560) (ends_iter
      (fun s => ∃ (at_ : Int) (i : Nat) (o : Option (List Come)), s = ((at_, (i : Int), ()), (o, ())) ∧ comesOk (o.getD []) 0 0 at_ ∧ (o.getD []).length = i ∧ i ≤ min 16 l.length ∧ 0 ≤ at_ ∧ at_ ≤ 65535 * i) _
      (fun s => 16 - s.1.2.1.toNat) ?_ ?_ ?_) ?_
    · exact ⟨0, 0, none, rfl, ⟨fun j c hj => (by simp at hj), fun c hc => (by cases hc), fun c hc => (by cases hc), List.Pairwise.nil⟩, rfl, Nat.zero_le _, by omega, by omega⟩
    · simp only; omega
    · rintro s ⟨at_, i, o, rfl, hc, hlen, hi, h0, h1⟩
      have hlt : (i < (l.take 16).length) ∨ i = min 16 l.length := by simp; omega
      have step : ∀ (z : List Come), comesOk z 0 0 at_ → z.length = i → i < (l.take 16).length → ∃ x, (l.take 16)[i]? = some x ∧ wrF .i64 x.1 = x.1 ∧ wrF .i64 (at_ + x.1) = at_ + x.1 ∧ wrF .i64 x.2.2 = x.2.2 ∧ wrF .i64 (Int.tmod x.2.1 8) = Int.tmod x.2.1 8 ∧ wrF .i64 (84 + Int.tmod x.2.2 1459) = 84 + Int.tmod x.2.2 1459 ∧ wrF .i64 ((i : Int) + 1) = ((i + 1 : Nat) : Int) ∧ comesOk (z ++ [(at_ + x.1, frItem x i)]) 0 0 (at_ + x.1) ∧ 0 ≤ at_ + x.1 ∧ at_ + x.1 ≤ 65535 * ((i + 1 : Nat) : Int) := fun z hz hzl hil => by
        have hx : (l.take 16)[i]? = some ((l.take 16)[i]) := List.getElem?_eq_getElem hil
        have hf := h _ (List.mem_of_mem_take (List.getElem_mem hil))
        generalize (l.take 16)[i] = x at hx hf
        have hi16 : i ≤ 16 := by simp at hil; omega
        obtain ⟨q1, q2, q3⟩ := fr_item hf hi16
        have := hf.w0; have := hf.w1; have := hf.z0; have := hf.z1
        exact ⟨x, hx, wr64 (by omega) (by omega), wr64 (by omega) (by omega), wr64 (by omega) (by omega), q2, q3, wr64 (by omega) (by omega), comes_snoc hz (by omega) h0 q1 (by show (i : Int) = _; rw [hzl]), by omega, by push_cast; omega⟩
      cases o with
      | none =>
        simp only [Option.getD_none, List.length_nil] at hlen hc
        subst hlen
        refine ends_bif (fun hb => ?_) (fun hb => ?_)
        · have hlt0 : 0 < (l.take 16).length := by rw [iltF_eq] at hb; have := of_decide_eq_true hb; simp only at this; omega
          obtain ⟨x, hx, w1, w2, w3, w4, w5, w6, w7, w8, w9⟩ := step [] hc rfl hlt0
          refine ends_opt (at_ends hx ?_)
          simp only [w1, w2, w3, w4, w5, w6, List.length_cons, List.length_nil]
          rw [appOk_s (by omega) (by omega)]
          refine ends_some (round_on ⟨_, 1, _, rfl, w7, rfl, by omega, w8, w9⟩ (by simp only; omega))
        · refine ends_some (round_out ?_)
          have : ¬ 0 < (l.take 16).length := by rw [iltF_eq] at hb; have := of_decide_eq_false hb; simp only at this; omega
          exact ⟨hc, by simp only [Option.getD_none, List.length_nil]; omega, h0, by simp only at h1 ⊢; omega⟩
      | some z =>
        simp only [Option.getD_some] at hlen hc
        refine ends_bif (fun hb => ?_) (fun hb => ?_)
        · have hlt0 : i < (l.take 16).length := by rw [iltF_eq] at hb; have := of_decide_eq_true hb; simp only at this; omega
          obtain ⟨x, hx, w1, w2, w3, w4, w5, w6, w7, w8, w9⟩ := step z hc hlen hlt0
          refine ends_opt (at_ends hx ?_)
          simp only [w1, w2, w3, w4, w5, w6, List.length_cons, List.length_nil]
          rw [appOk_s (by omega) (by omega)]
          refine ends_some (round_on ⟨_, i + 1, _, rfl, w7, by simp [hlen], by omega, w8, w9⟩ (by simp only [Int.toNat_natCast]; omega))
        · refine ends_some (round_out ?_)
          have : ¬ i < (l.take 16).length := by rw [iltF_eq] at hb; have := of_decide_eq_false hb; simp only at this; omega
          exact ⟨hc, by simp only [Option.getD_some]; omega, h0, by simp only at h1 ⊢; omega⟩
    · rintro ⟨j, ⟨at_, y⟩, o, u⟩ ⟨h1, h2, h3, h4⟩
      cases o with
      | none => exact ends_some ⟨h1, h2, h3, h4⟩
      | some z => exact ends_some ⟨h1, h2, h3, h4⟩
  obtain ⟨⟨cs, last, u⟩, e, q1, q2, q3, q4⟩ := key
  exact ⟨cs, last, e, q1, q2, q3, q4⟩
end Go.Proofs.Ytfpbgiaiifcnlaa.pg
/- PortGates, plain: a run of a port keeps what the law asks. -/
namespace Go.Proofs.Ytfpbgiaiifcnlaa.pg
open Go Go.Fz Go.Fz.Sy
set_option linter.unusedVariables false
set_option linter.unusedSimpArgs false
def nS (qs : List Queue) : Int := (qs.map fun q => (q.2.length : Int)).sum
theorem nS_set {qs : List Queue} {c : Nat} {q q' : Queue} (h : qs[c]? = some q) : nS (qs.set c q') = nS qs - q.2.length + q'.2.length := by
  unfold nS
  rw [List.map_set]
  exact sum_set (by simp [h])
theorem nS_ge {qs : List Queue} : 0 ≤ nS qs := by
  unfold nS
  induction qs with
  | nil => simp
  | cons q r ih => simp; omega
theorem nS_mem {qs : List Queue} {c : Nat} {q : Queue} (h : qs[c]? = some q) : (q.2.length : Int) ≤ nS qs := by
  have h1 := nS_set (q' := (0, [])) h
  have h2 := nS_ge (qs := qs.set c (0, []))
  have : (((0, []) : Queue).2.length : Int) = 0 := rfl
  omega
def bz (p : Port) : Int := if p.2.2.2.1 = true then 1 else 0
structure Inv (g : Gates) (sh last : Int) (p : Port) (cs : List Come) (tt : Int) : Prop where
  ok : portOk p
  ln : p.1 = (g, 1, sh)
  t0 : p.2.1 ≤ tt
  tb : p.2.2.2.1 = true → tt ≤ p.2.2.2.2.2.2.1
  lo : ∀ c ∈ cs, tt ≤ c.1
  hi : ∀ c ∈ cs, c.1 ≤ last
  so : cs.Pairwise fun a b => a.1 ≤ b.1
  it : ∀ c ∈ cs, itemOk c.2
  rm : nS p.2.2.1 + bz p + cs.length ≤ 16
  cp : ∀ q ∈ p.2.2.1, q.1 = 65536
  ft : p.2.2.2.1 = true → p.2.2.2.2.2.2.1 - p.2.2.2.2.2.1 ≤ openF g p.2.2.2.2.1.1.2.2.1 (p.2.2.2.2.2.1 + sh) ∧ p.2.2.2.2.2.2.1 ≤ p.2.2.2.2.2.1 + p.2.2.2.2.1.2.1
variable {g : Gates} {sh last : Int} {p : Port} {cs : List Come} {tt : Int}
theorem Inv.sends (h : Inv g sh last p cs tt) (hb : p.2.2.2.1 = true) : sends p := by
  rcases h.ok.s with hi | hs
  · rw [hi.b] at hb; cases hb
  · exact hs
theorem cp_set {qs : List Queue} (h : ∀ q ∈ qs, q.1 = 65536) {c : Nat} {q : Queue} (hq : q.1 = 65536) : ∀ z ∈ qs.set c q, z.1 = 65536 := fun z hz => by
  rcases List.mem_or_eq_of_mem_set hz with h1 | h1
  · exact h z h1
  · subst h1; exact hq
theorem Inv.end_ (h : Inv g sh last p cs tt) (hb : p.2.2.2.1 = true) (he : p.2.2.2.2.2.2.1 = tt) (t1 : tt ≤ 549755813888) : ∃ p' x d, K19 (p, tt, ()) = some (p', x, d, 0, ()) ∧ Inv g sh last p' cs tt := by
  have hs := h.sends hb
  have n0 := h.ok.n0
  have t0 := h.t0
  have hbz : bz p = 1 := by unfold bz; simp [hb]
  have hrm := h.rm
  rcases K19_s h.ok hs he.symm t1 with ⟨hr, hk⟩ | ⟨hr, c, q, hc, hq, hk⟩
  · refine ⟨_, _, _, hk, done_ok h.ok (by omega) t1, h.ln, Int.le_refl _, fun hf => (by cases hf), h.lo, h.hi, h.so, h.it, ?_, h.cp, fun hf => (by cases hf)⟩
    have : bz (doneP p tt) = 0 := rfl
    rw [this]
    show nS p.2.2.1 + 0 + cs.length ≤ 16
    omega
  · have hm := nS_mem hq
    have hcap := h.cp q (List.mem_of_getElem? hq)
    refine ⟨_, _, _, hk, back_ok h.ok hs hr hc hq (by omega) (by omega) t1, h.ln, Int.le_refl _, fun hf => (by cases hf), h.lo, h.hi, h.so, h.it, ?_, cp_set h.cp hcap, fun hf => (by cases hf)⟩
    have hz : bz (backP p c q tt) = 0 := rfl
    rw [hz]
    show nS (p.2.2.1.set c (q.1, (p.2.2.2.2.1.1, p.2.2.2.2.2.2.2, true) :: q.2)) + 0 + cs.length ≤ 16
    rw [nS_set hq]
    simp only [List.length_cons]
    push_cast
    omega
theorem Inv.arr {x : Come} (h : Inv g sh last p (x :: cs) tt) (hx : x.1 = tt) (t1 : tt ≤ 549755813888) : ∃ p', K20 (p, tt, x.2, ()) = some (p', true, 0, ()) ∧ Inv g sh last p' cs tt := by
  have hi := h.it x (by simp)
  have n0 := h.ok.n0
  have t0 := h.t0
  have hrm := h.rm
  have hbz : 0 ≤ bz p := by unfold bz; split <;> omega
  simp only [List.length_cons] at hrm
  obtain ⟨c, hc⟩ := Int.eq_ofNat_of_zero_le hi.c0
  have hc8 : c < 8 := by have := hi.c1; omega
  have hq : p.2.2.1[c]? = some (p.2.2.1[c]'(by have := h.ok.q.n8; omega)) := List.getElem?_eq_getElem _
  generalize p.2.2.1[c]'(by have := h.ok.q.n8; omega) = q at hq
  obtain ⟨q1, q2⟩ := h.ok.q.qs c q hq
  have hm := nS_mem hq
  have hcap := h.cp q (List.mem_of_getElem? hq)
  have ho : ocS q.2 + x.2.2.2.2.1 ≤ q.1 := by
    have h1 := sum_bd (l := q.2.map (·.2.1)) (M := 1542) (fun y hy => by
      obtain ⟨z, hz, rfl⟩ := List.mem_map.1 hy
      have := (q1.ps z hz).left; omega) q.2.length
    rw [List.take_of_length_le (by simp)] at h1
    simp only [List.length_map] at h1
    have := hi.z1
    unfold ocS
    omega
  have ha := arr_ok h.ok t0 t1 h.tb hi hc hq ho (by omega)
  refine ⟨_, K20_s h.ok t0 t1 h.tb hi hc hq ho, ha, h.ln, Int.le_refl _, h.tb, fun y hy => h.lo y (by simp [hy]), fun y hy => h.hi y (by simp [hy]), (List.pairwise_cons.1 h.so).2, fun y hy => h.it y (by simp [hy]), ?_, cp_set h.cp hcap, h.ft⟩
  have hz : bz (arrP p c q x.2 tt) = bz p := rfl
  rw [hz]
  show nS (p.2.2.1.set c (q.1, q.2 ++ [(x.2, x.2.2.2.2.1, false)])) + bz p + cs.length ≤ 16
  rw [nS_set hq]
  simp only [List.length_append, List.length_cons, List.length_nil]
  push_cast at hrm ⊢
  omega
theorem Inv.cho (h : Inv g sh last p cs tt) (t1 : tt ≤ 549755813888) : ∃ p', K21 (p, tt, ()) = some (p', 0, ()) ∧ Inv g sh last p' cs tt ∧ p'.2.1 = tt := by
  obtain ⟨p', hk, hc⟩ := K21_s h.ok h.t0 t1 h.tb
  have hok := hc.ok h.ok h.t0 t1 h.tb
  refine ⟨p', hk, ?_⟩
  have hrm := h.rm
  have tb' : p'.2.2.2.1 = true → p'.2.1 ≤ p'.2.2.2.2.2.2.1 := fun hb => by
    rcases hok.s with hi | hs
    · rw [hi.b] at hb; cases hb
    · exact hs.e
  cases hc with
  | none hno => exact ⟨⟨hok, h.ln, Int.le_refl _, tb', h.lo, h.hi, h.so, h.it, h.rm, h.cp, h.ft⟩, rfl⟩
  | start c q x r hb hcc hq hx hm =>
    have hcap := h.cp q (List.mem_of_getElem? hq)
    obtain ⟨q1, q2⟩ := h.ok.q.qs c q hq
    have hcl := q2 x (by rw [hx]; simp)
    refine ⟨⟨hok, h.ln, Int.le_refl _, tb', h.lo, h.hi, h.so, h.it, ?_, cp_set h.cp hcap, fun _ => ?_⟩, rfl⟩
    · have hz : bz (startP (p.1, tt, p.2.2) c q.1 x r tt) = 1 := rfl
      have hz0 : bz p = 0 := by unfold bz; simp [hb]
      rw [hz]
      show nS (p.2.2.1.set c (q.1, r)) + 1 + cs.length ≤ 16
      rw [nS_set hq]
      simp only [hx, List.length_cons]
      push_cast
      omega
    · obtain ⟨y, hy, p1, p2, p3⟩ := hm.full
      rw [List.getElem?_map, hq] at hy
      have hyx : y = x := by
        simp only [Option.map_some, Option.some.injEq] at hy
        unfold hd at hy; rw [hx] at hy; exact hy.symm
      subst hyx
      have hl := h.ln
      rw [hl] at p3
      simp only at p3
      show tt + y.2.1 * p.1.2.1 - tt ≤ openF g y.1.2.2.1 (tt + sh) ∧ tt + y.2.1 * p.1.2.1 ≤ tt + y.2.1
      rw [hl, hcl]
      simp only
      omega
  | cut k hb hp hr k1 k2 k3 =>
    have hs := h.sends hb
    have hl := h.ln
    refine ⟨⟨hok, h.ln, Int.le_refl _, tb', h.lo, h.hi, h.so, h.it, ?_, h.cp, fun _ => ?_⟩, rfl⟩
    · have hz : bz p = 1 := by unfold bz; simp [hb]
      rw [hz] at hrm
      exact hrm
    · obtain ⟨f1, f2⟩ := h.ft hb
      have hend : p.2.2.2.2.2.2.1 = p.2.2.2.2.2.1 + p.2.2.2.2.1.2.1 * p.1.2.1 := by
        rcases hs.r with ⟨_, h2⟩ | ⟨_, h2, _⟩
        · exact h2
        · omega
      show p.2.2.2.2.2.1 + (k + 24) * p.1.2.1 - p.2.2.2.2.2.1 ≤ openF g p.2.2.2.2.1.1.2.2.1 (p.2.2.2.2.2.1 + sh) ∧ p.2.2.2.2.2.1 + (k + 24) * p.1.2.1 ≤ p.2.2.2.2.2.1 + p.2.2.2.2.1.2.1
      have hper : p.1.2.1 = 1 := by rw [hl]
      rw [hper] at hend ⊢
      omega
/-! ### The law's gate list -/
def nrmE (x : Int × Int) : Int × Int := (bitI .and .i64 x.1 255, 1 + Int.tmod (wrF .u64 x.2) 5000)
theorem nrm_ok (x : Int × Int) : 0 ≤ (nrmE x).1 ∧ (nrmE x).1 ≤ 255 ∧ 1 ≤ (nrmE x).2 ∧ (nrmE x).2 ≤ 5000 ∧ wrF .i64 (Int.tmod (wrF .u64 x.2) 5000) = Int.tmod (wrF .u64 x.2) 5000 ∧ wrF .i64 (1 + Int.tmod (wrF .u64 x.2) 5000) = 1 + Int.tmod (wrF .u64 x.2) 5000 := by
  have hu : 0 ≤ wrF .u64 x.2 := by
    rw [wrF_eq]
    unfold IntKind.wrap
    show 0 ≤ (if (false && decide (x.2 % 18446744073709551616 ≥ 9223372036854775808)) = true then x.2 % 18446744073709551616 - 18446744073709551616 else x.2 % 18446744073709551616)
    simp only [Bool.false_and, Bool.false_eq_true, if_false]
    omega
  have a1 : 0 ≤ Int.tmod (wrF .u64 x.2) 5000 := Int.tmod_nonneg _ hu
  have a2 : Int.tmod (wrF .u64 x.2) 5000 < 5000 := Int.tmod_lt_of_pos _ (by omega)
  have hb : 0 ≤ bitI .and .i64 x.1 255 ∧ bitI .and .i64 x.1 255 ≤ 255 := by
    show 0 ≤ IntKind.i64.wrap ((BitVec.ofInt 64 x.1 &&& BitVec.ofInt 64 255).toNat : Int) ∧ IntKind.i64.wrap ((BitVec.ofInt 64 x.1 &&& BitVec.ofInt 64 255).toNat : Int) ≤ 255
    have h : (BitVec.ofInt 64 x.1 &&& BitVec.ofInt 64 255).toNat ≤ 255 := by
      rw [BitVec.toNat_and]
      exact Nat.and_le_right
    have := wr64 (z := ((BitVec.ofInt 64 x.1 &&& BitVec.ofInt 64 255).toNat : Int)) (by omega) (by omega)
    rw [wrF_eq] at this
    rw [this]
    omega
  exact ⟨hb.1, hb.2, by simp only [nrmE]; omega, by simp only [nrmE]; omega, wr64 (by omega) (by omega), wr64 (by omega) (by omega)⟩
end Go.Proofs.Ytfpbgiaiifcnlaa.pg
/- Functions of the program, readable: what the evaluator makes of each. -/
noncomputable section
namespace Go.Proofs.Ytfpbgiaiifcnlaa.pg
open Go Go.Fz Go.Fz.Sy
set_option maxRecDepth 100000
set_option maxHeartbeats 0
set_option linter.unusedVariables false
/-! isochron/isochronlaw38.PortGates -/
abbrev A5 : List VT := [⟨false, (.list S88)⟩, ⟨true, S24⟩, ⟨false, (.int .i8)⟩]
abbrev B5 : List VT := [⟨false, .bool⟩]
def pl5 : Plan := planA [⟨S144, flatTy S144, []⟩, ⟨S143, flatTy S143, []⟩, ⟨S134, flatTy S134, [0]⟩, ⟨S133, flatTy S133, [0]⟩, ⟨S91, flatTy S91, [0]⟩, ⟨S90, flatTy S90, [0]⟩, ⟨S88, flatTy S88, []⟩, ⟨S87, flatTy S87, []⟩, ⟨S79, flatTy S79, []⟩, ⟨S64, flatTy S64, []⟩, ⟨S61, flatTy S61, []⟩, ⟨S59, flatTy S59, []⟩, ⟨S58, flatTy S58, []⟩, ⟨S42, flatTy S42, []⟩, ⟨S35, flatTy S35, [0]⟩, ⟨S34, flatTy S34, [0]⟩, ⟨S43, flatTy S43, []⟩, ⟨S33, flatTy S33, []⟩, ⟨S32, flatTy S32, []⟩, ⟨S31, flatTy S31, []⟩, ⟨S30, flatTy S30, []⟩, ⟨S26, flatTy S26, [0]⟩, ⟨S25, flatTy S25, [0]⟩, ⟨S24, flatTy S24, [0]⟩, ⟨S23, flatTy S23, [0]⟩, ⟨S65, flatTy S65, []⟩, ⟨S14, flatTy S14, []⟩, ⟨S13, flatTy S13, []⟩, ⟨S8, flatTy S8, []⟩, ⟨S7, flatTy S7, []⟩] [] [⟨1, 240, none, S65, true⟩, ⟨6, 240, none, S65, true⟩, ⟨12, 240, none, S65, true⟩, ⟨16, 240, none, S65, true⟩, ⟨19, 240, none, S65, true⟩, ⟨21, 240, none, S65, true⟩, ⟨23, 240, none, S65, true⟩, ⟨24, 240, none, S65, true⟩, ⟨27, 240, none, S65, true⟩, ⟨29, 240, none, S65, true⟩, ⟨32, 240, none, S65, true⟩, ⟨36, 240, none, S65, true⟩, ⟨38, 240, none, S65, true⟩, ⟨40, 240, none, S65, true⟩]
def R5 (G7 : (Unit) → Option (Bool × Unit)) (G17 : (D24 × Unit) → Option (Int × Unit)) (G13 : ((List D88) × Unit) → Option ((List D61) × Int × Unit)) (G15 : (Int × Unit) → Option ((List Int) × Unit)) (G8 : (D26 × (List Int) × Unit) → Option (D35 × Int × Unit)) (G18 : (D35 × Unit) → Option (Int × Int × Unit)) (G19 : (D35 × Int × Unit) → Option (D35 × D31 × Bool × Int × Unit)) (G20 : (D35 × Int × D31 × Unit) → Option (D35 × Bool × Int × Unit)) (G21 : (D35 × Int × Unit) → Option (D35 × Int × Unit)) (G12 : (D35 × Unit) → Option (Int × Unit)) (G22 : (D24 × Int × Int × Int × Unit) → Option (Bool × Int × Unit)) (a0 : (List D88)) (a1 : D24) (a2 : Int) : Option (Bool × Unit) :=
  opt (G7 (())) fun x0 =>
  bif !x0.1 then some (false, ())
  else opt (cutI (a1.1) none (some ((minI ((((a1.1).length : Nat) : Int)) (8)))) none) fun x1 =>
    opt (iterK (fun s2 : ((((List (Int × Int)) × Int) × (Int × Unit)) × Unit) =>
      bif (iltF (s2.1.2.1) ((((x1).length : Nat) : Int))) then opt (atI (x1) (s2.1.2.1)) fun x3 =>
        opt (cutI (s2.1.1.1) none (some (s2.1.2.1)) none) fun x4 =>
        bif (appOk (0) ((x4).length) (16)) then bif (appOk ((x4).length) (((((bitI .and .i64 (x3.1) (255)), (wrF .i64 ((1 + (wrF .i64 ((Int.tmod (wrF .u64 (x3.2)) 5000))))))) :: [])).length) (16)) then opt (cutI (s2.1.1.1) (some ((wrF .i64 ((s2.1.2.1 + 1))))) none none) fun x5 =>
            bif (appOk (((x4 ++ (((bitI .and .i64 (x3.1) (255)), (wrF .i64 ((1 + (wrF .i64 ((Int.tmod (wrF .u64 (x3.2)) 5000))))))) :: []))).length) ((x5).length) (16)) then some (.inr (((((x4 ++ (((bitI .and .i64 (x3.1) (255)), (wrF .i64 ((1 + (wrF .i64 ((Int.tmod (wrF .u64 (x3.2)) 5000))))))) :: [])) ++ x5), (wrF .i64 ((s2.1.1.2 + (wrF .i64 ((1 + (wrF .i64 ((Int.tmod (wrF .u64 (x3.2)) 5000)))))))))), ((wrF .i64 ((s2.1.2.1 + 1))), ())), ()))
            else none
          else none
        else none
      else some (.inl (0, ((s2.1.1, (s2.1.2.1, ())), ())))) bigN (((x1, 0), (0, ())), ())) fun x6 =>
    bif (ieqF ((((x6.2.1.1.1).length : Nat) : Int)) (0)) then opt (G17 ((x6.2.1.1, ()))) fun x7 =>
      some ((ieqF (x7.1) (370)), ())
    else opt (G13 ((a0, ()))) fun x8 =>
      opt (G15 ((65536, ()))) fun x9 =>
      opt (G8 (((x6.2.1.1, (1, (wrF .i64 (a2)))), (x9.1, ())))) fun x10 =>
      bif !(ieqF (x10.2.1) (0)) then some (false, ())
      else opt (iterK (fun s11 : ((((List (Int × Int)) × Int) × (((((List (Int × Int)) × Int) × (Int × Int)) × (Int × ((List (Int × (List ((Int × (Int × (Int × (Int × Int)))) × (Int × Bool))))) × (Bool × (((Int × (Int × (Int × (Int × Int)))) × (Int × Bool)) × (Int × (Int × Int))))))) × ((List (Int × (Int × (Int × (Int × (Int × Int)))))) × (Bool × (Int × Unit))))) × Unit) =>
          bif (iltF (s11.1.2.2.2.2.1) (200)) then opt (G18 ((s11.1.2.1, ()))) fun x12 =>
            opt (bif (iltF (0) ((((s11.1.2.2.1).length : Nat) : Int))) then bif !(ieqF (x12.2.1) (0)) then opt (atI (s11.1.2.2.1) (0)) fun x13 =>
                  some (0, ((x13.1, (0, ())), ()))
                else opt (atI (s11.1.2.2.1) (0)) fun x14 =>
                  bif (iltF (x14.1) (x12.1)) then opt (atI (s11.1.2.2.1) (0)) fun x15 =>
                    some (0, ((x15.1, (0, ())), ()))
                  else some (0, ((x12.1, (x12.2.1, ())), ()))
              else some (0, ((x12.1, (x12.2.1, ())), ()))) fun x16 =>
            bif !(ieqF (x16.2.1.2.1) (0)) then some (.inl (0, ((s11.1.1, (s11.1.2.1, (s11.1.2.2.1, (s11.1.2.2.2.1, (s11.1.2.2.2.2.1, ()))))), ())))
            else bif (iltF ((wrF .i64 ((x8.2.1 + 100000)))) (x16.2.1.1)) then some (.inl (0, ((s11.1.1, (s11.1.2.1, (s11.1.2.2.1, (s11.1.2.2.2.1, (s11.1.2.2.2.2.1, ()))))), ())))
              else opt (bif s11.1.2.1.2.2.2.1 then bif (ieqF (s11.1.2.1.2.2.2.2.2.2.1) (x16.2.1.1)) then opt (G19 ((s11.1.2.1, (x16.2.1.1, ())))) fun x17 =>
                      bif !(ieqF (x17.2.2.2.1) (0)) then some ((0 + 1), ((x17.1, (false, ())), ()))
                      else some (0, ((x17.1, (s11.1.2.2.2.1, ())), ()))
                    else some (0, ((s11.1.2.1, (s11.1.2.2.2.1, ())), ()))
                  else some (0, ((s11.1.2.1, (s11.1.2.2.2.1, ())), ()))) fun x18 =>
                bif (Nat.beq x18.1 0) then opt (iterK (fun s19 : ((((((List (Int × Int)) × Int) × (Int × Int)) × (Int × ((List (Int × (List ((Int × (Int × (Int × (Int × Int)))) × (Int × Bool))))) × (Bool × (((Int × (Int × (Int × (Int × Int)))) × (Int × Bool)) × (Int × (Int × Int))))))) × ((List (Int × (Int × (Int × (Int × (Int × Int)))))) × (Bool × Unit))) × Unit) =>
                    bif (iltF (0) ((((s19.1.2.1).length : Nat) : Int))) then opt (atI (s19.1.2.1) (0)) fun x20 =>
                      bif (ieqF (x20.1) (x16.2.1.1)) then opt (atI (s19.1.2.1) (0)) fun x21 =>
                        opt (G20 ((s19.1.1, (x16.2.1.1, (x21.2, ()))))) fun x22 =>
                        opt (cutI (s19.1.2.1) (some (1)) none none) fun x23 =>
                        opt (bif !(ieqF (x22.2.2.1) (0)) then some ((0 + 1), ((false, ()), ()))
                          else bif !x22.2.1 then some ((0 + 1), ((false, ()), ()))
                            else some (0, ((s19.1.2.2.1, ()), ()))) fun x24 =>
                        bif (Nat.beq x24.1 0) then some (.inr ((x22.1, (x23, (x24.2.1.1, ()))), ()))
                        else some (.inl ((0 + 1), ((x22.1, (x23, (x24.2.1.1, ()))), ())))
                      else some (.inl (0, ((s19.1.1, (s19.1.2.1, (s19.1.2.2.1, ()))), ())))
                    else some (.inl (0, ((s19.1.1, (s19.1.2.1, (s19.1.2.2.1, ()))), ())))) bigN ((x18.2.1.1, (s11.1.2.2.1, (x18.2.1.2.1, ()))), ())) fun x25 =>
                  bif (Nat.beq x25.1 0) then opt (G21 ((x25.2.1.1, (x16.2.1.1, ())))) fun x26 =>
                    opt (bif !(ieqF (x26.2.1) (0)) then some ((0 + 1), ((x26.1, (false, ())), ()))
                      else opt (G12 ((x26.1, ()))) fun x27 =>
                        bif !(ieqF (x27.1) (0)) then some ((0 + 1), ((x26.1, (false, ())), ()))
                        else some (0, ((x26.1, (x25.2.1.2.2.1, ())), ()))) fun x28 =>
                    bif (Nat.beq x28.1 0) then opt (bif x28.2.1.1.2.2.2.1 then opt (G22 ((s11.1.1, (x28.2.1.1.2.2.2.2.1.1.2.2.1, ((wrF .i64 ((x28.2.1.1.2.2.2.2.2.1 + x28.2.1.1.1.2.2))), ((wrF .i64 ((x28.2.1.1.2.2.2.2.2.2.1 - x28.2.1.1.2.2.2.2.2.1))), ())))))) fun x29 =>
                          opt (bif !(ieqF (x29.2.1) (0)) then some ((0 + 1), ((false, ()), ()))
                            else bif !x29.1 then some ((0 + 1), ((false, ()), ()))
                              else bif (iltF ((wrF .i64 ((x28.2.1.1.2.2.2.2.2.1 + x28.2.1.1.2.2.2.2.1.2.1)))) (x28.2.1.1.2.2.2.2.2.2.1)) then some ((0 + 1), ((false, ()), ()))
                                else some (0, ((x28.2.1.2.1, ()), ()))) fun x30 =>
                          bif (Nat.beq x30.1 0) then some (0, ((s11.1.1, (x28.2.1.1, (x30.2.1.1, ()))), ()))
                          else some ((0 + 1), ((s11.1.1, (x28.2.1.1, (x30.2.1.1, ()))), ()))
                        else some (0, ((s11.1.1, (x28.2.1.1, (x28.2.1.2.1, ()))), ()))) fun x31 =>
                      bif (Nat.beq x31.1 0) then some (.inr ((x31.2.1.1, (x31.2.1.2.1, (x25.2.1.2.1, (x31.2.1.2.2.1, ((wrF .i64 ((s11.1.2.2.2.2.1 + 1))), ()))))), ()))
                      else some (.inl ((0 + 1), ((x31.2.1.1, (x31.2.1.2.1, (x25.2.1.2.1, (x31.2.1.2.2.1, (s11.1.2.2.2.2.1, ()))))), ())))
                    else some (.inl ((0 + 1), ((s11.1.1, (x28.2.1.1, (x25.2.1.2.1, (x28.2.1.2.1, (s11.1.2.2.2.2.1, ()))))), ())))
                  else some (.inl ((0 + 1), ((s11.1.1, (x25.2.1.1, (x25.2.1.2.1, (x25.2.1.2.2.1, (s11.1.2.2.2.2.1, ()))))), ())))
                else some (.inl ((0 + 1), ((s11.1.1, (x18.2.1.1, (s11.1.2.2.1, (x18.2.1.2.1, (s11.1.2.2.2.2.1, ()))))), ())))
          else some (.inl (0, ((s11.1.1, (s11.1.2.1, (s11.1.2.2.1, (s11.1.2.2.2.1, (s11.1.2.2.2.2.1, ()))))), ())))) bigN ((x6.2.1.1, (x10.1, (x8.1, (false, (0, ()))))), ())) fun x32 =>
        bif (Nat.beq x32.1 0) then some (true, ())
        else some (x32.2.1.2.2.2.1, ())
theorem E5 (G7 : (Unit) → Option (Bool × Unit)) (G17 : (D24 × Unit) → Option (Int × Unit)) (G13 : ((List D88) × Unit) → Option ((List D61) × Int × Unit)) (G15 : (Int × Unit) → Option ((List Int) × Unit)) (G8 : (D26 × (List Int) × Unit) → Option (D35 × Int × Unit)) (G18 : (D35 × Unit) → Option (Int × Int × Unit)) (G19 : (D35 × Int × Unit) → Option (D35 × D31 × Bool × Int × Unit)) (G20 : (D35 × Int × D31 × Unit) → Option (D35 × Bool × Int × Unit)) (G21 : (D35 × Int × Unit) → Option (D35 × Int × Unit)) (G12 : (D35 × Unit) → Option (Int × Unit)) (G22 : (D24 × Int × Int × Int × Unit) → Option (Bool × Int × Unit)) (a0 : (List D88)) (a1 : D24) (a2 : Int) : sF Try.prog [(7, ⟨A7, B7, G7⟩), (17, ⟨A17, B17, G17⟩), (13, ⟨A13, B13, G13⟩), (15, ⟨A15, B15, G15⟩), (8, ⟨A8, B8, G8⟩), (18, ⟨A18, B18, G18⟩), (19, ⟨A19, B19, G19⟩), (20, ⟨A20, B20, G20⟩), (21, ⟨A21, B21, G21⟩), (12, ⟨A12, B12, G12⟩), (22, ⟨A22, B22, G22⟩)] pl5 (autoJ []) 30 5 A5 B5 (a0, a1, a2, ()) = R5 G7 G17 G13 G15 G8 G18 G19 G20 G21 G12 G22 a0 a1 a2 := by kernel_rfl
def K5 : ((List D88) × D24 × Int × Unit) → Option (Bool × Unit) := sF Try.prog [(7, ⟨A7, B7, K7⟩), (17, ⟨A17, B17, K17⟩), (13, ⟨A13, B13, K13⟩), (15, ⟨A15, B15, K15⟩), (8, ⟨A8, B8, K8⟩), (18, ⟨A18, B18, K18⟩), (19, ⟨A19, B19, K19⟩), (20, ⟨A20, B20, K20⟩), (21, ⟨A21, B21, K21⟩), (12, ⟨A12, B12, K12⟩), (22, ⟨A22, B22, K22⟩)] pl5 (autoJ []) 30 5 A5 B5
theorem K5_ok : Con.Ok Try.prog 5 ⟨A5, B5, K5⟩ := sF_ok (tblOk_cons K7_ok (tblOk_cons K17_ok (tblOk_cons K13_ok (tblOk_cons K15_ok (tblOk_cons K8_ok (tblOk_cons K18_ok (tblOk_cons K19_ok (tblOk_cons K20_ok (tblOk_cons K21_ok (tblOk_cons K12_ok (tblOk_cons K22_ok tblOk_nil))))))))))) special (by kernel_rfl)
theorem K5_eq (a0 : (List D88)) (a1 : D24) (a2 : Int) : K5 (a0, a1, a2, ()) = R5 K7 K17 K13 K15 K8 K18 K19 K20 K21 K12 K22 a0 a1 a2 := E5 K7 K17 K13 K15 K8 K18 K19 K20 K21 K12 K22 a0 a1 a2
end Go.Proofs.Ytfpbgiaiifcnlaa.pg
/- PortGates, plain: the law's function returns true. -/
namespace Go.Proofs.Ytfpbgiaiifcnlaa.pg
open Go Go.Fz Go.Fz.Sy
set_option linter.unusedVariables false
set_option linter.unusedSimpArgs false
theorem ilt_t {a b : Int} (h : a < b) : iltF a b = true := by rw [iltF_eq]; exact decide_eq_true h
theorem ilt_f {a b : Int} (h : ¬ a < b) : iltF a b = false := by rw [iltF_eq]; exact decide_eq_false h
theorem ilt_of {a b : Int} (h : iltF a b = true) : a < b := by rw [iltF_eq] at h; exact of_decide_eq_true h
theorem ilt_nof {a b : Int} (h : iltF a b = false) : ¬ a < b := by rw [iltF_eq] at h; exact of_decide_eq_false h
theorem ieq_of {a b : Int} (h : ieqF a b = true) : a = b := by rw [ieqF_eq] at h; exact eq_of_beq h
theorem ieq_nof {a b : Int} (h : ieqF a b = false) : a ≠ b := by rw [ieqF_eq] at h; exact beq_eq_false_iff_ne.1 h
theorem ieq_t {a b : Int} (h : a = b) : ieqF a b = true := by rw [ieqF_eq, h]; simp
theorem ieq_f {a b : Int} (h : a ≠ b) : ieqF a b = false := by rw [ieqF_eq]; exact beq_eq_false_iff_ne.2 h
theorem head_le {cs : List Come} {c : Come} {r : List Come} (h : cs = c :: r) (hs : cs.Pairwise fun a b => a.1 ≤ b.1) : ∀ x ∈ cs, c.1 ≤ x.1 := fun x hx => by
  subst h
  rcases List.mem_cons.1 hx with rfl | hx
  · exact Int.le_refl _
  · exact (List.pairwise_cons.1 hs).1 x hx
theorem law5 {a0 : List Frame} {a1 : Gates} {a2 : Int} (h0 : ∀ x ∈ a0, frOk x) (h2 : -128 ≤ a2) (h3 : a2 ≤ 127) : K5 (a0, a1, a2, ()) = some (true, ()) := by
  apply ends_eq
  rw [K5_eq]; unfold R5
  refine ends_opt (ends_of K7_s ?_)
  simp only [Bool.not_true, cond_false]
  refine ends_opt (ends_of (cut_min a1.1 8) ?_)
  generalize hx1 : a1.1.take 8 = x1
  have hl8 : x1.length ≤ 8 := by rw [← hx1]; simp; omega
  refine ends_opt' (J := fun x => x.2.1.1 = (x1.map nrmE, ((x1.map nrmE).map (·.2)).sum)) (ends_iter
    (fun s => ∃ i : Nat, s = ((((x1.take i).map nrmE ++ x1.drop i, (((x1.map nrmE).map (·.2)).take i).sum), (i : Int), ()), ()) ∧ i ≤ x1.length) _ (fun s => x1.length - s.1.2.1.toNat) ?_ ?_ ?_) ?_
  · exact ⟨0, by simp, Nat.zero_le _⟩
  · simp only; omega
  · rintro s ⟨i, rfl, hi⟩
    refine ends_bif (fun hb => ?_) (fun hb => ?_)
    · have hil : i < x1.length := by have := ilt_of hb; simp only at this; omega
      have hx : x1[i]? = some x1[i] := List.getElem?_eq_getElem hil
      refine ends_opt (at_ends hx ?_)
      generalize x1[i] = x at hx
      obtain ⟨n1, n2, n3, n4, n5, n6⟩ := nrm_ok x
      have hti : ((x1.take i).map nrmE).length = i := by simp; omega
      have hlen : ((x1.take i).map nrmE ++ x1.drop i).length = x1.length := by simp; omega
      have ec := cutI_to ((x1.take i).map nrmE ++ x1.drop i) i (by omega)
      have hta : ((x1.take i).map nrmE ++ x1.drop i).take i = (x1.take i).map nrmE := by
        rw [List.take_append_of_le_length (show i ≤ ((x1.take i).map nrmE).length by omega)]
        exact List.take_of_length_le (show ((x1.take i).map nrmE).length ≤ i by omega)
      rw [hta] at ec
      have e4 : wrF .i64 ((i : Int) + 1) = ((i + 1 : Nat) : Int) := by rw [wr64] <;> omega
      have ed := cutI_from ((x1.take i).map nrmE ++ x1.drop i) (i + 1) (by omega)
      have hdrop : ((x1.take i).map nrmE ++ x1.drop i).drop (i + 1) = x1.drop (i + 1) := by
        rw [List.drop_append, List.drop_eq_nil_of_le (by omega), hti, List.nil_append, List.drop_drop]
        congr 1; omega
      rw [hdrop] at ed
      have hdl : (x1.drop (i + 1)).length ≤ 8 := by simp; omega
      have e2 := sum_take_succ (l := (x1.map nrmE).map (·.2)) (n := i) (x := (nrmE x).2) (by simp [hx])
      have hsb := sum_bd (l := (x1.map nrmE).map (·.2)) (M := 5000) (fun y hy => by
        obtain ⟨z, hz, rfl⟩ := List.mem_map.1 hy
        obtain ⟨w, hw, rfl⟩ := List.mem_map.1 hz
        have := nrm_ok w; omega) i
      simp only [List.length_map] at hsb
      refine ends_opt (ends_of ec ?_)
      simp only [e4, n5, n6, hti, List.length_cons, List.length_nil, List.length_append]
      rw [appOk_s (show 0 + i ≤ 100000 by omega) (show 16 ≤ 1000 by omega)]
      simp only [cond_true]
      rw [appOk_s (show i + (0 + 1) ≤ 100000 by omega) (show 16 ≤ 1000 by omega)]
      simp only [cond_true]
      refine ends_opt (ends_of ed ?_)
      rw [appOk_s (show i + (0 + 1) + (x1.drop (i + 1)).length ≤ 100000 by omega) (show 16 ≤ 1000 by omega)]
      have e5 : wrF .i64 ((((x1.map nrmE).map (·.2)).take i).sum + (1 + Int.tmod (wrF .u64 x.2) 5000)) = (((x1.map nrmE).map (·.2)).take (i + 1)).sum := by
        rw [e2]
        show wrF .i64 (_ + (nrmE x).2) = _
        exact wr64 (by omega) (by omega)
      simp only [cond_true, e5]
      refine ends_some (round_on ⟨i + 1, ?_, by omega⟩ (by simp only [Int.toNat_natCast]; omega))
      have htk : (x1.take (i + 1)).map nrmE = (x1.take i).map nrmE ++ [nrmE x] := by
        rw [List.take_add_one, hx]; simp
      rw [htk]
      rfl
    · have hil : i = x1.length := by have := ilt_nof hb; simp only at this; omega
      subst hil
      refine ends_some (round_out ?_)
      simp only [List.take_length, List.drop_length, List.append_nil]
      rw [List.take_of_length_le (by simp)]
  · rintro ⟨j, ⟨g, y⟩, u⟩ hg
    simp only at hg
    subst hg
    simp only [List.length_map]
    refine ends_bif (fun hb => ?_) (fun hb => ?_)
    · have hz : x1 = [] := by
        have := ieq_of hb
        exact List.length_eq_zero_iff.1 (by omega)
      subst hz
      refine ends_opt (ends_of (show K17 ((([] : List (Int × Int)).map nrmE, ((([] : List (Int × Int)).map nrmE).map (·.2)).sum), ()) = some (370, ()) from K17_nil) ?_)
      exact ends_some rfl
    · have hne : x1.length ≠ 0 := by have := ieq_nof hb; omega
      have hG : gatesOk (x1.map nrmE, ((x1.map nrmE).map (·.2)).sum) := by
        have hsb := sum_bd (l := (x1.map nrmE).map (·.2)) (M := 5000) (fun y hy => by
          obtain ⟨z, hz, rfl⟩ := List.mem_map.1 hy
          obtain ⟨w, hw, rfl⟩ := List.mem_map.1 hz
          have := nrm_ok w; omega) x1.length
        rw [List.take_of_length_le (by simp)] at hsb
        simp only [List.length_map] at hsb
        refine ⟨by simp only [List.length_map]; omega, by simp only [List.length_map]; omega, fun e he => ?_, rfl, by simp only; omega⟩
        obtain ⟨w, hw, rfl⟩ := List.mem_map.1 he
        have := nrm_ok w; omega
      generalize hgg : (x1.map nrmE, ((x1.map nrmE).map (·.2)).sum) = g at hG
      obtain ⟨cs0, last, k13, hc0, hcl, hl0, hl1⟩ := K13_s h0
      have hsh : wrF .i64 a2 = a2 := wr64 (by omega) (by omega)
      have hline : lineOk (g, 1, a2) := ⟨hG, by show (1 : Int) ≤ 1; omega, by show (1 : Int) ≤ 1000; omega, by show -1000 ≤ a2; omega, by show a2 ≤ 1000; omega⟩
      refine ends_opt (ends_of k13 ?_)
      refine ends_opt (ends_of K15_s ?_)
      simp only [hsh]
      refine ends_opt (ends_of (K8_s hline) ?_)
      simp only [show ieqF (0 : Int) 0 = true from rfl, Bool.not_true, cond_false]
      have hw : wrF .i64 (last + 100000) = last + 100000 := wr64 (by omega) (by omega)
      refine ends_opt' (J := fun x => x.1 = 0) (ends_iter
        (fun s => ∃ (p : Port) (cs : List Come) (n : Nat), s = ((g, p, cs, false, (n : Int), ()), ()) ∧ Inv g a2 last p cs p.2.1 ∧ n ≤ 200) _ (fun s => 200 - s.1.2.2.2.2.1.toNat) ?_ ?_ ?_) ?_
      · refine ⟨newP (g, 1, a2), cs0, 0, rfl, ⟨newP_ok hline, rfl, Int.le_refl _, fun hf => (by cases hf), hc0.lo, hc0.hi, hc0.so, fun c hc => ?_, ?_, fun q hq => ?_, fun hf => (by cases hf)⟩, Nat.zero_le _⟩
        · obtain ⟨j, hj⟩ := List.getElem?_of_mem hc
          exact (hc0.it j c hj).1
        · show nS (List.replicate 8 (65536, [])) + 0 + (cs0.length : Int) ≤ 16
          have : nS (List.replicate 8 (65536, [])) = 0 := by decide
          omega
        · have : q ∈ List.replicate 8 ((65536 : Int), ([] : List Part)) := hq
          have := List.eq_of_mem_replicate this
          rw [this]
      · simp only; omega
      · rintro s ⟨p, cs, n, rfl, hI, hn⟩
        simp only [hw]
        refine ends_bif (fun hb => ?_) (fun _ => ends_some (round_out rfl))
        have hn2 : n < 200 := by have := ilt_of hb; omega
        have e4 : wrF .i64 ((n : Int) + 1) = ((n + 1 : Nat) : Int) := by rw [wr64] <;> omega
        -- the time
        refine ends_opt' (J := fun x12 => (x12.2.1 = 0 ∧ p.2.1 ≤ x12.1 ∧ (p.2.2.2.1 = true → x12.1 = p.2.2.2.2.2.2.1)) ∨ (x12.2.1 = 4 ∧ p.2.2.2.1 = false)) (by
          rcases K18_s hI.ok with ⟨a, k1, k2, k3, _⟩ | ⟨k1, k2⟩
          · exact ends_of k1 (.inl ⟨rfl, k2, k3⟩)
          · exact ends_of k1 (.inr ⟨rfl, k2⟩)) ?_
        rintro ⟨a, e, u⟩ h12
        simp only at h12 ⊢
        refine ends_opt' (J := fun x16 => ∃ (tt ff : Int) (z : Unit), x16 = (0, ((tt, ff, ()), z)) ∧ (ff = 0 → p.2.1 ≤ tt ∧ (p.2.2.2.1 = true → tt ≤ p.2.2.2.2.2.2.1) ∧ ∀ c ∈ cs, tt ≤ c.1)) (by
          cases hcs : cs with
          | nil =>
            rw [show iltF 0 ((([] : List Come).length : Nat) : Int) = false from rfl]
            simp only [cond_false]
            refine ends_some ⟨a, e, (), rfl, fun he => ?_⟩
            rcases h12 with ⟨_, q1, q2⟩ | ⟨q1, _⟩
            · exact ⟨q1, fun hb => by rw [q2 hb]; exact Int.le_refl _, fun c hc => (by cases hc)⟩
            · omega
          | cons c r =>
            have hle := head_le hcs hI.so
            have hlo := hI.lo c (by rw [hcs]; simp)
            rw [ilt_t (show (0 : Int) < (((c :: r).length : Nat) : Int) by simp only [List.length_cons]; omega)]
            simp only [cond_true]
            have hat : (c :: r)[0]? = some c := rfl
            refine ends_bif (fun he => ?_) (fun he => ?_)
            · refine ends_opt (at_ends (n := 0) hat ?_)
              refine ends_some ⟨c.1, 0, (), rfl, fun _ => ⟨hlo, fun hb => ?_, hcs ▸ hle⟩⟩
              rcases h12 with ⟨q0, q1, q2⟩ | ⟨_, q1⟩
              · rw [q0] at he; cases he
              · rw [q1] at hb; cases hb
            · refine ends_opt (at_ends (n := 0) hat ?_)
              have he0 : e = 0 := by
                cases hq : ieqF e 0 with
                | true => exact ieq_of hq
                | false => rw [hq] at he; cases he
              rcases h12 with ⟨_, q1, q2⟩ | ⟨q1, _⟩
              · refine ends_bif (fun hlt => ?_) (fun hlt => ?_)
                · refine ends_opt (at_ends (n := 0) hat ?_)
                  have := ilt_of hlt
                  refine ends_some ⟨c.1, 0, (), rfl, fun _ => ⟨hlo, fun hb => ?_, hcs ▸ hle⟩⟩
                  have := q2 hb; omega
                · have := ilt_nof hlt
                  refine ends_some ⟨a, e, (), rfl, fun _ => ⟨q1, fun hb => by rw [q2 hb]; exact Int.le_refl _, fun x hx => ?_⟩⟩
                  have := hle x (by rw [hcs]; exact hx); omega
              · omega) ?_
        rintro x16 ⟨tt, ff, z, rfl, hP⟩
        simp only
        refine ends_bif (fun _ => ends_some (round_out rfl)) (fun hff => ?_)
        have hff0 : ff = 0 := by
          cases hq : ieqF ff 0 with
          | true => exact ieq_of hq
          | false => rw [hq] at hff; cases hff
        obtain ⟨t0, tb, tl⟩ := hP hff0
        refine ends_bif (fun _ => ends_some (round_out rfl)) (fun hlt => ?_)
        have ht1 : tt ≤ 549755813888 := by have := ilt_nof hlt; omega
        have hI1 : Inv g a2 last p cs tt := ⟨hI.ok, hI.ln, t0, tb, tl, hI.hi, hI.so, hI.it, hI.rm, hI.cp, hI.ft⟩
        -- the end of a transmission
        refine ends_opt' (J := fun x18 => ∃ (p1 : Port) (z : Unit), x18 = (0, ((p1, false, ()), z)) ∧ Inv g a2 last p1 cs tt) (by
          refine ends_bif (fun hb => ?_) (fun _ => ends_some ⟨p, (), rfl, hI1⟩)
          refine ends_bif (fun he => ?_) (fun _ => ends_some ⟨p, (), rfl, hI1⟩)
          obtain ⟨p1, x, d, k, hI2⟩ := hI1.end_ hb (ieq_of he) ht1
          refine ends_opt (ends_of k ?_)
          exact ends_some ⟨p1, (), rfl, hI2⟩) ?_
        rintro x18 ⟨p1, z, rfl, hI2⟩
        simp only [show (Nat.beq 0 0) = true from rfl, cond_true]
        -- arrivals
        refine ends_opt' (J := fun x25 => ∃ (p2 : Port) (cs2 : List Come) (z : Unit), x25 = (0, ((p2, cs2, false, ()), z)) ∧ Inv g a2 last p2 cs2 tt) (ends_iter
          (fun s => ∃ (p2 : Port) (cs2 : List Come), s = ((p2, cs2, false, ()), ()) ∧ Inv g a2 last p2 cs2 tt) _ (fun s => s.1.2.1.length) ⟨p1, cs, rfl, hI2⟩ (by
            have h1 := hI2.rm
            have h2 : 0 ≤ nS p1.2.2.1 := nS_ge
            have h3 : 0 ≤ bz p1 := by unfold bz; split <;> omega
            simp only; omega) ?_) ?_
        · rintro s ⟨p2, cs2, rfl, hI3⟩
          simp only
          refine ends_bif (fun hb => ?_) (fun _ => ends_some (round_out ⟨p2, cs2, (), rfl, hI3⟩))
          cases cs2 with
          | nil => cases hb
          | cons c r =>
            have hat : (c :: r)[0]? = some c := rfl
            refine ends_opt (at_ends (n := 0) hat ?_)
            refine ends_bif (fun he => ?_) (fun _ => ends_some (round_out ⟨p2, c :: r, (), rfl, hI3⟩))
            refine ends_opt (at_ends (n := 0) hat ?_)
            obtain ⟨p3, k, hI4⟩ := hI3.arr (ieq_of he) ht1
            refine ends_opt (ends_of k ?_)
            have ed := cutI_from (c :: r) 1 (by simp)
            refine ends_opt (ends_of ed ?_)
            exact ends_some (round_on ⟨p3, r, rfl, hI4⟩ (by simp))
        · rintro x25 ⟨p2, cs2, z, rfl, hI3⟩
          simp only [show (Nat.beq 0 0) = true from rfl, cond_true]
          obtain ⟨p3, k21, hI4, hnow⟩ := hI3.cho ht1
          refine ends_opt (ends_of k21 ?_)
          refine ends_opt (Q := Round _ _ _ _) (ends_of (a := (0, ((p3, false, ()), ()))) (by
            simp only [show ieqF (0 : Int) 0 = true from rfl, Bool.not_true, cond_false, K12_s hI4.ok, opt_s]) ?_)
          simp only [show (Nat.beq 0 0) = true from rfl, cond_true]
          refine ends_opt (Q := Round _ _ _ _) (ends_of (a := (0, ((g, p3, false, ()), ()))) (by
            cases hb : p3.2.2.2.1 with
            | false => rfl
            | true =>
              have hs := hI4.sends hb
              obtain ⟨f1, f2⟩ := hI4.ft hb
              have hln := hI4.ln
              have hnn := hI4.ok.n1
              have hc0 := hs.s.it.c0
              have hc1 := hs.s.it.c1
              have hg0 := hs.g0
              have hg1 := hs.g1
              have hee := hs.e
              have hl := hs.s.l84
              have e1 : wrF .i64 (p3.2.2.2.2.2.1 + a2) = p3.2.2.2.2.2.1 + a2 := wr64 (by omega) (by omega)
              have e2 : wrF .i64 (p3.2.2.2.2.2.2.1 - p3.2.2.2.2.2.1) = p3.2.2.2.2.2.2.1 - p3.2.2.2.2.2.1 := wr64 (by omega) (by omega)
              have e3 : wrF .i64 (p3.2.2.2.2.2.1 + p3.2.2.2.2.1.2.1) = p3.2.2.2.2.2.1 + p3.2.2.2.2.1.2.1 := wr64 (by omega) (by omega)
              have hk := K22_s hG (c := p3.2.2.2.2.1.1.2.2.1) (t := p3.2.2.2.2.2.1 + a2) (l := p3.2.2.2.2.2.2.1 - p3.2.2.2.2.2.1) hc0 hc1 (by omega) (by omega) (by omega) (by omega)
              rw [decide_eq_true f1] at hk
              simp only [cond_true, hln, e1, e2, hk, opt_s, show ieqF (0 : Int) 0 = true from rfl, Bool.not_true, cond_false, e3, ilt_f (show ¬ p3.2.2.2.2.2.1 + p3.2.2.2.2.1.2.1 < p3.2.2.2.2.2.2.1 by omega), show (Nat.beq 0 0) = true from rfl]) ?_)
          simp only [show (Nat.beq 0 0) = true from rfl, cond_true, e4]
          refine ends_some (round_on ⟨p3, cs2, n + 1, rfl, hnow ▸ hI4, by omega⟩ (by simp only [Int.toNat_natCast]; omega))
      · rintro ⟨j, x⟩ hj
        simp only at hj
        subst hj
        exact ends_some rfl
end Go.Proofs.Ytfpbgiaiifcnlaa.pg
