/- Parts of a proof, joined: E, F, G, H, I, J, M, N, P, Q, R, S, L4, T. -/
import Derived.Test.YtfpbgiaiifcnlaaPw1
/- What the gates' functions make of valid gate lists. -/
namespace Go.Proofs.Ytfpbgiaiifcnlaa.pg
open Go Go.Fz Go.Fz.Sy
set_option linter.unusedVariables false
set_option linter.unusedSimpArgs false
theorem ph_nn {t c : Int} (h0 : 1 ≤ c) (h1 : c ≤ 9600000) : wrF .i64 (Int.tmod t c + c) = Int.tmod t c + c ∧ 0 ≤ Int.tmod (Int.tmod t c + c) c ∧ Int.tmod (Int.tmod t c + c) c < c := by
  have a1 : -c < Int.tmod t c := Int.lt_tmod_of_pos t (by omega)
  have a2 : Int.tmod t c < c := Int.tmod_lt_of_pos t (by omega)
  refine ⟨wr64 (by omega) (by omega), Int.tmod_nonneg _ (by omega), Int.tmod_lt_of_pos _ (by omega)⟩
theorem cyc_pos {g : Gates} (h : gatesOk g) : 1 ≤ g.2 := by
  have h0 := h.n0
  have hx : g.1[0]? = some g.1[0] := List.getElem?_eq_getElem (by omega)
  have hnn : ∀ x ∈ g.1.map (·.2), 0 ≤ x := fun x hx => by
    obtain ⟨e, he, rfl⟩ := List.mem_map.1 hx
    have := (h.el e he).2.2.1; omega
  have e2 := sum_take_succ (l := g.1.map (·.2)) (n := 0) (x := g.1[0].2) (by simp [hx])
  have := (sum_take_le hnn 1).2
  have := (h.el _ (List.getElem_mem (show 0 < g.1.length by omega))).2.2.1
  have := h.cy
  simp at e2
  omega
theorem K80_s {g : Gates} (h : gatesOk g) (t : Int) : ∃ (i : Nat) (left : Int), K80 (g, t, ()) = some ((i : Int), left, ()) ∧ i < g.1.length ∧ 1 ≤ left ∧ left ≤ 9600000 := by
  have hc := cyc_pos h
  have hc1 := h.c1
  have h0 := h.n0
  obtain ⟨e1, p0, p1⟩ := ph_nn (t := t) hc hc1
  have hx0 : g.1[0]? = some g.1[0] := List.getElem?_eq_getElem (by omega)
  have hz : (g.2 == 0) = false := by simp; omega
  have hnn : ∀ x ∈ g.1.map (·.2), 0 ≤ x := fun x hx => by
    obtain ⟨e, he, rfl⟩ := List.mem_map.1 hx
    have := (h.el e he).2.2.1; omega
  generalize hr : Int.tmod (Int.tmod t g.2 + g.2) g.2 = r at p0 p1
  have ha : atI g.1 0 = some g.1[0] := atI_get (n := 0) hx0
  obtain ⟨m1, m2, m3, m4⟩ := h.el _ (List.getElem_mem (show 0 < g.1.length by omega))
  rw [K80_eq]; unfold R80
  simp only [ieqF_eq, hz, cond_false, ha, opt_s, e1, hr, iltF_eq]
  by_cases hlt : r < g.1[0].2
  · have e2 : wrF .i64 (g.1[0].2 - r) = g.1[0].2 - r := wr64 (by omega) (by omega)
    simp only [hlt, decide_true, Bool.not_true, cond_false, e2]
    exact ⟨0, _, rfl, by omega, by omega, by omega⟩
  · simp only [hlt, decide_false, Bool.not_false, cond_true]
    have e2 : wrF .i64 (r - g.1[0].2) = r - g.1[0].2 := wr64 (by omega) (by omega)
    rw [e2, show wrF .i64 (0 + 1) = 1 from by rw [wr64] <;> omega]
    have hs0 := sum_take_succ (l := g.1.map (·.2)) (n := 0) (x := g.1[0].2) (by simp [hx0])
    obtain ⟨x, hx, i, hi, q1, q2, q3⟩ := iter_big (B := fun s2 : ((Int × (Int × (Int × Unit))) × Unit) =>
          opt (atI (g.1) (s2.1.2.1)) fun x3 =>
          bif !(decide (s2.1.1 < x3.2)) then opt (atI (g.1) (s2.1.2.1)) fun x4 =>
            some (.inr (((wrF .i64 ((s2.1.1 - x4.2))), ((wrF .i64 ((s2.1.2.1 + 1))), (s2.1.2.2.1, ()))), ()))
          else opt (atI (g.1) (s2.1.2.1)) fun x5 =>
            some (.inl ((0 : Nat), ((s2.1.1, (s2.1.2.1, ((wrF .i64 ((x5.2 - s2.1.1))), ()))), ()))))
      (fun s => ∃ i : Nat, s.1.2.1 = (i : Int) ∧ i < g.1.length ∧ 0 ≤ s.1.1 ∧ s.1.1 + ((g.1.map (·.2)).take i).sum < g.2)
      (fun x => ∃ i : Nat, x.2.1.2.1 = (i : Int) ∧ i < g.1.length ∧ 1 ≤ x.2.1.2.2.1 ∧ x.2.1.2.2.1 ≤ 9600000)
      (fun s => g.1.length - s.1.2.1.toNat)
      (fun s hs => by
        obtain ⟨i, h1, h2, h3, h4⟩ := hs
        have hx : g.1[i]? = some g.1[i] := List.getElem?_eq_getElem h2
        obtain ⟨k1, k2, k3, k4⟩ := h.el _ (List.getElem_mem h2)
        have hsum := sum_take_succ (l := g.1.map (·.2)) (n := i) (x := g.1[i].2) (by simp [hx])
        have hti := sum_take_le hnn i
        simp only [h1, atI_get hx, opt_s]
        by_cases hl : s.1.1 < g.1[i].2
        · left
          have e3 : wrF .i64 (g.1[i].2 - s.1.1) = g.1[i].2 - s.1.1 := wr64 (by omega) (by omega)
          simp only [hl, decide_true, Bool.not_true, cond_false, e3]
          exact ⟨_, rfl, i, rfl, h2, by simp only; omega, by simp only; omega⟩
        · right
          have e3 : wrF .i64 (s.1.1 - g.1[i].2) = s.1.1 - g.1[i].2 := wr64 (by omega) (by omega)
          have e4 : wrF .i64 ((i : Int) + 1) = ((i + 1 : Nat) : Int) := by rw [wr64] <;> (have := h.n1; omega)
          simp only [hl, decide_false, Bool.not_false, cond_true, e3, e4]
          have hlen : i + 1 < g.1.length := by
            apply Classical.byContradiction
            intro hn
            have : i + 1 = g.1.length := by omega
            have hall : ((g.1.map (·.2)).take (i + 1)).sum = g.2 := by
              rw [this, List.take_of_length_le (by simp)]; exact h.cy
            omega
          exact ⟨_, rfl, ⟨i + 1, rfl, hlen, by simp only; omega, by simp only; omega⟩, by simp only [Int.toNat_natCast]; omega⟩)
      (s := ((r - g.1[0].2, (1, (0, ()))), ())) (by
        have hlen : 1 < g.1.length := by
          apply Classical.byContradiction
          intro hn
          have : 1 = g.1.length := by omega
          have hall : ((g.1.map (·.2)).take 1).sum = g.2 := by
            rw [this, List.take_of_length_le (by simp)]; exact h.cy
          simp at hs0
          omega
        refine ⟨1, rfl, hlen, by simp only; omega, ?_⟩
        simp only
        simp at hs0
        omega) (by have := h.n1; simp only; omega)
    rw [hx]
    simp only [opt_s, hi]
    exact ⟨i, _, rfl, q1, q2, q3⟩
def bitAt (m c : Int) : Int := bitI .and .i64 (shrI .i64 m c) 1
theorem bit01 (a : Int) : bitI .and .i64 a 1 = 0 ∨ bitI .and .i64 a 1 = 1 := by
  show IntKind.i64.wrap ((BitVec.ofInt 64 a &&& BitVec.ofInt 64 1).toNat : Int) = 0 ∨ IntKind.i64.wrap ((BitVec.ofInt 64 a &&& BitVec.ofInt 64 1).toNat : Int) = 1
  have h : (BitVec.ofInt 64 a &&& BitVec.ofInt 64 1).toNat ≤ 1 := by
    rw [BitVec.toNat_and]
    exact Nat.and_le_right
  generalize (BitVec.ofInt 64 a &&& BitVec.ofInt 64 1).toNat = n at h
  match n, h with
  | 0, _ => exact .inl rfl
  | 1, _ => exact .inr rfl
/-- How far the masks have a property. -/
theorem stretch_s {g : Gates} (h : gatesOk g) {c v : Int} (hc : 0 ≤ c) (ng : Bool → Bool) {i0 : Nat} {l0 : Int} (hi : i0 < g.1.length) (hl : 1 ≤ l0) (hl2 : l0 ≤ 9600000) :
    ∃ (j : Nat) (r n : Int) (i : Int) (l k : Int), iterK (fun s1 : ((Int × (((List (Int × Int)) × Int) × (Int × (Int × (Int × (Int × (Int × Unit))))))) × Unit) =>
    bif (iltF (s1.1.2.2.2.2.2.2.1) ((wrF .i64 (((((g.1).length : Nat) : Int) + 1))))) then opt (atI (s1.1.2.1.1) (s1.1.2.2.2.2.1)) fun x2 =>
      bif (iltF (s1.1.1) (0)) then none
      else bif (ng (ieqF ((bitI .and .i64 ((shrI .i64 (x2.1) (s1.1.1))) (1))) v)) then some (.inl ((0 + 1), ((s1.1.1, (s1.1.2.1, (s1.1.2.2.2.1, (s1.1.2.2.2.1, (s1.1.2.2.2.2.1, (s1.1.2.2.2.2.2.1, (s1.1.2.2.2.2.2.2.1, ()))))))), ())))
        else bif (ieqF ((((s1.1.2.1.1).length : Nat) : Int)) (0)) then none
          else opt (atI (s1.1.2.1.1) ((Int.tmod (wrF .i64 ((s1.1.2.2.2.2.1 + 1))) (((s1.1.2.1.1).length : Nat) : Int)))) fun x3 =>
            some (.inr ((s1.1.1, (s1.1.2.1, (s1.1.2.2.1, ((wrF .i64 ((s1.1.2.2.2.1 + s1.1.2.2.2.2.2.1))), ((Int.tmod (wrF .i64 ((s1.1.2.2.2.2.1 + 1))) (((s1.1.2.1.1).length : Nat) : Int)), (x3.2, ((wrF .i64 ((s1.1.2.2.2.2.2.2.1 + 1))), ()))))))), ()))
    else some (.inl (0, ((s1.1.1, (s1.1.2.1, (s1.1.2.2.1, (s1.1.2.2.2.1, (s1.1.2.2.2.2.1, (s1.1.2.2.2.2.2.1, (s1.1.2.2.2.2.2.2.1, ()))))))), ())))) bigN ((c, (g, (0, (0, ((i0 : Int), (l0, (0, ()))))))), ()) =
      some (j, ((c, (g, (r, (n, (i, (l, (k, ()))))))), ())) ∧ (j = 0 ∨ (j = 1 ∧ 0 ≤ r ∧ r ≤ 1300000000 ∧ (r = 0 → (ng (ieqF (bitAt g.1[i0].1 c) v)) = true))) := by
  have h0 := h.n0; have h1 := h.n1
  have el : wrF .i64 (((g.1.length : Nat) : Int) + 1) = ((g.1.length : Nat) : Int) + 1 := wr64 (by omega) (by omega)
  have hz : (((g.1.length : Nat) : Int) == 0) = false := by rw [beq_eq_false_iff_ne]; omega
  have hc' : ¬ c < 0 := by omega
  obtain ⟨x, hx, j, r, n, i, l, k, rfl, hj⟩ := iter_big (B := fun s1 : ((Int × (((List (Int × Int)) × Int) × (Int × (Int × (Int × (Int × (Int × Unit))))))) × Unit) =>
    bif (iltF (s1.1.2.2.2.2.2.2.1) ((wrF .i64 (((((g.1).length : Nat) : Int) + 1))))) then opt (atI (s1.1.2.1.1) (s1.1.2.2.2.2.1)) fun x2 =>
      bif (iltF (s1.1.1) (0)) then none
      else bif (ng (ieqF ((bitI .and .i64 ((shrI .i64 (x2.1) (s1.1.1))) (1))) v)) then some (.inl (((0 + 1 : Nat)), ((s1.1.1, (s1.1.2.1, (s1.1.2.2.2.1, (s1.1.2.2.2.1, (s1.1.2.2.2.2.1, (s1.1.2.2.2.2.2.1, (s1.1.2.2.2.2.2.2.1, ()))))))), ())))
        else bif (ieqF ((((s1.1.2.1.1).length : Nat) : Int)) (0)) then none
          else opt (atI (s1.1.2.1.1) ((Int.tmod (wrF .i64 ((s1.1.2.2.2.2.1 + 1))) (((s1.1.2.1.1).length : Nat) : Int)))) fun x3 =>
            some (.inr ((s1.1.1, (s1.1.2.1, (s1.1.2.2.1, ((wrF .i64 ((s1.1.2.2.2.1 + s1.1.2.2.2.2.2.1))), ((Int.tmod (wrF .i64 ((s1.1.2.2.2.2.1 + 1))) (((s1.1.2.1.1).length : Nat) : Int)), (x3.2, ((wrF .i64 ((s1.1.2.2.2.2.2.2.1 + 1))), ()))))))), ()))
    else some (.inl (0, ((s1.1.1, (s1.1.2.1, (s1.1.2.2.1, (s1.1.2.2.2.1, (s1.1.2.2.2.2.1, (s1.1.2.2.2.2.2.1, (s1.1.2.2.2.2.2.2.1, ()))))))), ()))))
    (fun s => ∃ (n : Int) (i : Nat) (l : Int) (k : Nat), s = ((c, (g, (0, (n, ((i : Int), (l, ((k : Int), ()))))))), ()) ∧ i < g.1.length ∧ 1 ≤ l ∧ l ≤ 9600000 ∧ 0 ≤ n ∧ n ≤ 9600000 * (k : Int) ∧ k ≤ g.1.length + 1 ∧ (n = 0 → i = i0))
    (fun x => ∃ (j : Nat) (r n : Int) (i : Int) (l k : Int), x = (j, ((c, (g, (r, (n, (i, (l, (k, ()))))))), ())) ∧ (j = 0 ∨ (j = 1 ∧ 0 ≤ r ∧ r ≤ 1300000000 ∧ (r = 0 → (ng (ieqF (bitAt g.1[i0].1 c) v)) = true))))
    (fun s => 200 - s.1.2.2.2.2.2.2.1.toNat)
    (fun s hs => by
      obtain ⟨n, i, l, k, rfl, hi, l1, l2, n1, n2, k1, hn0⟩ := hs
      have hx : g.1[i]? = some g.1[i] := List.getElem?_eq_getElem hi
      simp only [el, iltF_eq]
      by_cases hk : (k : Int) < ((g.1.length : Nat) : Int) + 1
      · simp only [hk, decide_true, cond_true, atI_get hx, opt_s, hc', decide_false, cond_false]
        cases hb : (ng (ieqF (bitI .and .i64 (shrI .i64 g.1[i].1 c) 1) v)) with
        | true =>
          left
          refine ⟨_, rfl, 1, n, n, i, l, k, rfl, .inr ⟨rfl, n1, by omega, fun hn => ?_⟩⟩
          have := hn0 hn
          subst this
          exact hb
        | false =>
          right
          have e4 : wrF .i64 ((i : Int) + 1) = ((i + 1 : Nat) : Int) := by rw [wr64] <;> omega
          have e5 : Int.tmod ((i + 1 : Nat) : Int) ((g.1.length : Nat) : Int) = (((i + 1) % g.1.length : Nat) : Int) := by
            rw [Int.tmod_eq_emod_of_nonneg (by omega)]; simp
          have hm : (i + 1) % g.1.length < g.1.length := Nat.mod_lt _ (by omega)
          have hx2 : g.1[(i + 1) % g.1.length]? = some (g.1[(i + 1) % g.1.length]'hm) := List.getElem?_eq_getElem hm
          obtain ⟨m1, m2, m3, m4⟩ := h.el _ (List.getElem_mem hm)
          have e6 : wrF .i64 (n + l) = n + l := wr64 (by omega) (by omega)
          have e7 : wrF .i64 ((k : Int) + 1) = ((k + 1 : Nat) : Int) := by rw [wr64] <;> omega
          simp only [cond_false, ieqF_eq, hz, e4, e5, atI_get hx2, opt_s, e6, e7]
          refine ⟨_, rfl, ⟨n + l, (i + 1) % g.1.length, _, k + 1, rfl, hm, m3, m4, by omega, by push_cast; omega, by omega, fun hn => by omega⟩, ?_⟩
          simp only [Int.toNat_natCast]
          omega
      · left
        simp only [hk, decide_false, cond_false]
        exact ⟨_, rfl, 0, 0, n, i, l, k, rfl, .inl rfl⟩)
    (s := ((c, (g, (0, (0, ((i0 : Int), (l0, (0, ()))))))), ())) ⟨0, i0, l0, 0, rfl, hi, hl, hl2, by omega, by omega, by omega, fun _ => rfl⟩ (by simp only; omega)
  exact ⟨j, r, n, i, l, k, hx, hj⟩
end Go.Proofs.Ytfpbgiaiifcnlaa.pg
/- What the gates' functions make of valid gate lists: open, Fits, Fit. -/
namespace Go.Proofs.Ytfpbgiaiifcnlaa.pg
open Go Go.Fz Go.Fz.Sy
set_option linter.unusedVariables false
set_option linter.unusedSimpArgs false
theorem K43_ex {g : Gates} (h : gatesOk g) {c : Int} (hc : 0 ≤ c) (t : Int) {i : Nat} {l : Int} (hf : K80 (g, t, ()) = some ((i : Int), l, ())) (hi : i < g.1.length) (h1 : 1 ≤ l) (h2 : l ≤ 9600000) :
    ∃ n : Int, K43 (g, c, t, ()) = some (n, ()) ∧ 0 ≤ n ∧ n ≤ 1099511627776 ∧ (n = 0 → bitAt (g.1[i]).1 c = 0) := by
  obtain ⟨j, r, n, i', l', k, hx, hj⟩ := stretch_s (g := g) h (c := c) (v := 1) hc (fun b => !b) hi h1 h2
  try dsimp only at hx hj
  rw [K43_eq]; unfold R43
  rw [hf]
  simp only [opt_s]
  rw [hx]
  simp only [opt_s]
  have hcy := cyc_pos h
  rcases hj with rfl | ⟨rfl, r0, r1, r2⟩
  · simp only [show (Nat.beq 0 0) = true from rfl, cond_true, ieqF_eq, beq_self_eq_true]
    exact ⟨_, rfl, by omega, by omega, fun hn => by omega⟩
  · simp only [show (Nat.beq 1 0) = false from rfl, cond_false, ieqF_eq]
    by_cases hr : r = g.2
    · simp only [hr, beq_self_eq_true, cond_true]
      exact ⟨_, rfl, by omega, by omega, fun hn => by omega⟩
    · rw [show (r == g.2) = false by rw [beq_eq_false_iff_ne]; exact hr]
      simp only [cond_false]
      refine ⟨_, rfl, r0, by omega, fun hn => ?_⟩
      have := r2 hn
      rw [ieqF_eq] at this
      rcases bit01 (shrI .i64 (g.1[i]).1 c) with hb | hb
      · exact hb
      · unfold bitAt at this
        rw [hb] at this
        cases this
noncomputable def openF (g : Gates) (c t : Int) : Int := ((K43 (g, c, t, ())).map (·.1)).getD 0
theorem K43_s {g : Gates} (h : gatesOk g) {c : Int} (hc : 0 ≤ c) (t : Int) : K43 (g, c, t, ()) = some (openF g c t, ()) ∧ 0 ≤ openF g c t ∧ openF g c t ≤ 1099511627776 := by
  obtain ⟨i, l, hf, hi, h1, h2⟩ := K80_s h t
  obtain ⟨n, hn, n0, n1, _⟩ := K43_ex h hc t hf hi h1 h2
  have : openF g c t = n := by unfold openF; rw [hn]; rfl
  rw [this]; exact ⟨hn, n0, n1⟩
theorem K42_s {g : Gates} (h : gatesOk g) {c t l : Int} (c0 : 0 ≤ c) (c1 : c ≤ 7) (t0 : -1099511627776 ≤ t) (t1 : t ≤ 1099511627776) (l0 : 0 ≤ l) (l1 : l ≤ 1099511627776) : K42 (g, c, t, l, ()) = some (0, ()) := by
  have d1 : ¬ c < 0 := by omega
  have d2 : c < 8 := by omega
  have d3 : ¬ t < -1099511627776 := by omega
  have d4 : ¬ 1099511627776 < t := by omega
  have d5 : ¬ l < 0 := by omega
  have d6 : ¬ 1099511627776 < l := by omega
  rw [K42_eq]; unfold R42
  simp only [K17_s h, opt_s, ieqF_eq, iltF_eq, beq_self_eq_true, Bool.not_true, cond_false, d1, d2, d3, d4, d5, d6, decide_false, decide_true]
  rfl
theorem K22_s {g : Gates} (h : gatesOk g) {c t l : Int} (c0 : 0 ≤ c) (c1 : c ≤ 7) (t0 : -1099511627776 ≤ t) (t1 : t ≤ 1099511627776) (l0 : 0 ≤ l) (l1 : l ≤ 1099511627776) : K22 (g, c, t, l, ()) = some (decide (l ≤ openF g c t), 0, ()) := by
  rw [K22_eq]; unfold R22
  simp only [K42_s h c0 c1 t0 t1 l0 l1, opt_s, ieqF_eq, iltF_eq, beq_self_eq_true, Bool.not_true, cond_false, (K43_s h c0 t).1]
  by_cases hl : l ≤ openF g c t
  · have : ¬ openF g c t < l := by omega
    simp [hl, this]
  · have : openF g c t < l := by omega
    simp [hl, this]
theorem K86_s {g : Gates} (h : gatesOk g) {c t l : Int} (c0 : 0 ≤ c) (c1 : c ≤ 7) (t0 : -1099511627776 ≤ t) (t1 : t ≤ 1099511627776) (l0 : 0 ≤ l) (l1 : l ≤ 1099511627776) :
    (∃ a : Int, K86 (g, c, t, l, ()) = some (a, 0, ()) ∧ t ≤ a ∧ a < t + 2 * g.2 ∧ l ≤ openF g c a ∧ (l ≤ openF g c t → a = t)) ∨ (K86 (g, c, t, l, ()) = some (0, 4, ()) ∧ ¬ l ≤ openF g c t) := by
  have hcy := cyc_pos h
  have hc1 := h.c1
  have w1 : wrF .i64 (2 * g.2) = 2 * g.2 := wr64 (by omega) (by omega)
  have w2 : wrF .i64 (t + 2 * g.2) = t + 2 * g.2 := wr64 (by omega) (by omega)
  rw [K86_eq]; unfold R86
  simp only [K42_s h c0 c1 t0 t1 l0 l1, opt_s, ieqF_eq (0 : Int) 0, beq_self_eq_true, Bool.not_true, cond_false]
  obtain ⟨x, hx, hj⟩ := iter_big (B := fun s1 : ((Int × (((List (Int × Int)) × Int) × (Int × (Int × (Int × Unit))))) × Unit) =>
      bif (iltF (s1.1.2.2.2.2.1) ((wrF .i64 ((t + (wrF .i64 ((2 * s1.1.2.1.2)))))))) then opt (K43 ((s1.1.2.1, (s1.1.1, (s1.1.2.2.2.2.1, ()))))) fun x2 =>
        bif !(iltF (x2.1) (l)) then some (.inl ((0 + 1), ((s1.1.1, (s1.1.2.1, (s1.1.2.2.2.2.1, (0, (s1.1.2.2.2.2.1, ()))))), ())))
        else opt (K80 ((s1.1.2.1, ((wrF .i64 ((s1.1.2.2.2.2.1 + x2.1))), ())))) fun x3 =>
          opt (iterK (fun s4 : ((Int × (((List (Int × Int)) × Int) × (Int × (Int × (Int × (Int × (Int × Unit))))))) × Unit) =>
            bif (iltF (s4.1.2.2.2.2.2.2.1) ((wrF .i64 (((((s1.1.2.1.1).length : Nat) : Int) + 1))))) then opt (atI (s4.1.2.1.1) (s4.1.2.2.2.2.1)) fun x5 =>
              bif (iltF (s4.1.1) (0)) then none
              else bif !(ieqF ((bitI .and .i64 ((shrI .i64 (x5.1) (s4.1.1))) (1))) (0)) then some (.inl ((0 + 1), ((s4.1.1, (s4.1.2.1, (s4.1.2.2.2.1, (s4.1.2.2.2.1, (s4.1.2.2.2.2.1, (s4.1.2.2.2.2.2.1, (s4.1.2.2.2.2.2.2.1, ()))))))), ())))
                else bif (ieqF ((((s4.1.2.1.1).length : Nat) : Int)) (0)) then none
                  else opt (atI (s4.1.2.1.1) ((Int.tmod (wrF .i64 ((s4.1.2.2.2.2.1 + 1))) (((s4.1.2.1.1).length : Nat) : Int)))) fun x6 =>
                    some (.inr ((s4.1.1, (s4.1.2.1, (s4.1.2.2.1, ((wrF .i64 ((s4.1.2.2.2.1 + s4.1.2.2.2.2.2.1))), ((Int.tmod (wrF .i64 ((s4.1.2.2.2.2.1 + 1))) (((s4.1.2.1.1).length : Nat) : Int)), (x6.2, ((wrF .i64 ((s4.1.2.2.2.2.2.2.1 + 1))), ()))))))), ()))
            else some (.inl (0, ((s4.1.1, (s4.1.2.1, (s4.1.2.2.1, (s4.1.2.2.2.1, (s4.1.2.2.2.2.1, (s4.1.2.2.2.2.2.1, (s4.1.2.2.2.2.2.2.1, ()))))))), ())))) bigN ((s1.1.1, (s1.1.2.1, (0, (0, (x3.1, (x3.2.1, (0, ()))))))), ())) fun x7 =>
          bif (Nat.beq x7.1 0) then some (.inr ((x7.2.1.1, (s1.1.2.1, (s1.1.2.2.1, (s1.1.2.2.2.1, ((wrF .i64 (((wrF .i64 ((s1.1.2.2.2.2.1 + x2.1))) + x7.2.1.2.1.2))), ()))))), ()))
          else some (.inr ((x7.2.1.1, (s1.1.2.1, (s1.1.2.2.1, (s1.1.2.2.2.1, ((wrF .i64 (((wrF .i64 ((s1.1.2.2.2.2.1 + x2.1))) + x7.2.1.2.2.1))), ()))))), ()))
      else some (.inl (0, ((s1.1.1, (s1.1.2.1, (s1.1.2.2.1, (s1.1.2.2.2.1, (s1.1.2.2.2.2.1, ()))))), ()))))
    (fun s => ∃ a : Int, s = ((c, (g, (0, (0, (a, ()))))), ()) ∧ t ≤ a ∧ a ≤ t + 3200000000000 ∧ (l ≤ openF g c t → a = t))
    (fun x => (∃ y, x = ((0 : Nat), y) ∧ ¬ l ≤ openF g c t) ∨ (∃ a b : Int, x = (1, ((c, (g, (a, (0, (b, ()))))), ())) ∧ t ≤ a ∧ a < t + 2 * g.2 ∧ l ≤ openF g c a ∧ (l ≤ openF g c t → a = t)))
    (fun s => (t + 3200000000000 - s.1.2.2.2.2.1).toNat)
    (fun s hs => by
      obtain ⟨a, rfl, a0, a1, a2⟩ := hs
      simp only [w1, w2]
      by_cases hlt : a < t + 2 * g.2
      · obtain ⟨o1, o2, o3⟩ := K43_s h c0 a
        rw [show iltF a (t + 2 * g.2) = true by rw [iltF_eq]; simp [hlt]]
        simp only [cond_true, o1, opt_s]
        by_cases hl : l ≤ openF g c a
        · left
          rw [show iltF (openF g c a) l = false by rw [iltF_eq]; simp; omega]
          exact ⟨_, rfl, .inr ⟨a, a, rfl, a0, hlt, hl, a2⟩⟩
        · right
          rw [show iltF (openF g c a) l = true by rw [iltF_eq]; simp; omega]
          simp only [Bool.not_true, cond_false]
          have e1 : wrF .i64 (a + openF g c a) = a + openF g c a := wr64 (by omega) (by omega)
          obtain ⟨i, lf, hf, hi, h1, h2⟩ := K80_s h (a + openF g c a)
          rw [e1, hf]
          simp only [opt_s]
          obtain ⟨j, r, n, i', l', k, hx, hj⟩ := stretch_s (g := g) h (c := c) (v := 0) c0 (fun b => !b) hi h1 h2
          try dsimp only at hx hj
          rw [hx]
          simp only [opt_s]
          have ha : ¬ (l ≤ openF g c t) := fun hh => by
            have := a2 hh
            subst this
            exact hl hh
          rcases hj with rfl | ⟨rfl, r0, r1, r2⟩
          · have e2 : wrF .i64 (a + openF g c a + g.2) = a + openF g c a + g.2 := wr64 (by omega) (by omega)
            simp only [show (Nat.beq 0 0) = true from rfl, cond_true, e2]
            exact ⟨_, rfl, ⟨_, rfl, by omega, by omega, fun hh => absurd hh ha⟩, by simp only; omega⟩
          · have e2 : wrF .i64 (a + openF g c a + r) = a + openF g c a + r := wr64 (by omega) (by omega)
            simp only [show (Nat.beq 1 0) = false from rfl, cond_false, e2]
            have hpos : 1 ≤ openF g c a + r := by
              apply Classical.byContradiction
              intro hn
              have z1 : openF g c a = 0 := by omega
              have z2 : r = 0 := by omega
              have hr := r2 z2
              rw [z1, Int.add_zero] at hf
              obtain ⟨n', hn', _, _, hz'⟩ := K43_ex h c0 a hf hi h1 h2
              rw [o1] at hn'
              simp only [Option.some.injEq, Prod.mk.injEq, and_true] at hn'
              have := hz' (by omega)
              rw [this] at hr
              cases hr
            exact ⟨_, rfl, ⟨_, rfl, by omega, by omega, fun hh => absurd hh ha⟩, by simp only; omega⟩
      · left
        rw [show iltF a (t + 2 * g.2) = false by rw [iltF_eq]; simp; omega]
        exact ⟨_, rfl, .inl ⟨_, rfl, fun hh => by have := a2 hh; omega⟩⟩)
    (s := ((c, (g, (0, (0, (t, ()))))), ())) ⟨t, rfl, by omega, by omega, fun _ => rfl⟩ (by simp only; omega)
  rw [hx]
  simp only [opt_s]
  rcases hj with ⟨y, rfl, hy⟩ | ⟨a, b, rfl, q1, q2, q3, q4⟩
  · right; exact ⟨rfl, hy⟩
  · left; exact ⟨a, rfl, q1, q2, q3, q4⟩
end Go.Proofs.Ytfpbgiaiifcnlaa.pg
/- What choose's functions make of valid lines and heads. -/
namespace Go.Proofs.Ytfpbgiaiifcnlaa.pg
open Go Go.Fz Go.Fz.Sy
set_option linter.unusedVariables false
set_option linter.unusedSimpArgs false
abbrev View := Line × List Part
def isZ (x : Part) : Bool := (((x.1.1 == 0) && ((x.1.2.1 == 0) && ((x.1.2.2.1 == 0) && ((x.1.2.2.2.1 == 0) && ((x.1.2.2.2.2 == 0) && true))))) && ((x.2.1 == 0) && ((x.2.2 == false) && true)))
theorem isZ_ok {x : Part} (h : partOk x) : isZ x = false := by
  have := h.it.z0
  unfold isZ
  rw [show (x.1.2.2.2.1 == 0) = false by rw [beq_eq_false_iff_ne]; omega]
  simp
theorem isZ_z : isZ zP = true := rfl
structure headsOk (hs : List Part) : Prop where
  n8 : hs.length = 8
  ps : ∀ (i : Nat) x, hs[i]? = some x → x = zP ∨ (partOk x ∧ x.1.2.2.1 = (i : Int))
  r1 : rq hs ≤ 1
theorem headsOk.left {hs : List Part} (h : headsOk hs) {i : Nat} {x : Part} (hx : hs[i]? = some x) : 0 ≤ x.2.1 ∧ x.2.1 ≤ 1542 := by
  rcases h.ps i x hx with rfl | ⟨h1, _⟩
  · exact ⟨by decide, by decide⟩
  · have := h1.left; omega
theorem K84_s {hs : List Part} (h : headsOk hs) : K84 (hs, ()) = some (0, ()) := by
  have h8 := h.n8
  rw [K84_eq]; unfold R84
  rw [show (ieqF ((hs.length : Nat) : Int) 8) = true by rw [ieqF_eq, h8]; rfl]
  simp only [Bool.not_true, cond_false]
  rw [iter_steps (st := fun i => ((0, ((hs.map r1).take i).sum, (i : Int), ()), ())) (n := hs.length) (x := (0, ((0, ((hs.map r1).take hs.length).sum, (hs.length : Int), ()), ()))) ?_ ?_ ?_ (by omega)]
  · rw [List.take_of_length_le (by simp)]
    have c : ¬ 1 < (hs.map r1).sum := by have := h.r1; unfold rq at this; omega
    simp only [opt_s, show (Nat.beq 0 0) = true from rfl, cond_true, iltF_eq, c, decide_false, cond_false]
  · simp
  · intro i hi
    have hx : hs[i]? = some hs[i] := List.getElem?_eq_getElem hi
    have hlt : ((i : Int) < ((hs.length : Nat) : Int)) := by omega
    have e2 := sum_take_succ (l := hs.map r1) (n := i) (x := r1 hs[i]) (by simp [hx])
    have e4 : wrF .i64 ((i : Int) + 1) = ((i + 1 : Nat) : Int) := by rw [wr64] <;> omega
    have hb := rq_bd hs i
    simp only [iltF_eq, ieqF_eq, hlt, decide_true, cond_true, atI_get hx, opt_s, e4, e2]
    rcases h.ps i _ hx with hz | ⟨hp, hc⟩
    · have hr : r1 hs[i] = 0 := by rw [hz]; rfl
      rw [show (((hs[i].1.1 == 0) && ((hs[i].1.2.1 == 0) && ((hs[i].1.2.2.1 == 0) && ((hs[i].1.2.2.2.1 == 0) && ((hs[i].1.2.2.2.2 == 0) && true))))) && ((hs[i].2.1 == 0) && ((hs[i].2.2 == false) && true))) = true from by rw [hz]; rfl]
      simp only [cond_true, hr, Int.add_zero]
    · have hz := isZ_ok hp
      unfold isZ at hz
      rw [hz]
      simp only [cond_false, K47_s hp, opt_s, beq_self_eq_true, Bool.not_true, hc, show (Nat.beq 0 0) = true from rfl, cond_true]
      cases hr : hs[i].2.2 with
      | true =>
        have hr1 : r1 hs[i] = 1 := by unfold r1; rw [hr]; rfl
        have e5 : wrF .i64 (((hs.map r1).take i).sum + 1) = ((hs.map r1).take i).sum + 1 := wr64 (by omega) (by omega)
        simp only [cond_true, opt_s, e5, hr1]
      | false =>
        have hr1 : r1 hs[i] = 0 := by unfold r1; rw [hr]; rfl
        simp only [cond_false, opt_s, hr1, Int.add_zero]
  · have : ¬ ((hs.length : Nat) : Int) < ((hs.length : Nat) : Int) := by omega
    simp only [iltF_eq, this, decide_false, cond_false]
theorem K66_s {l : Line} {hs : List Part} {t : Int} (hl : lineOk l) (hh : headsOk hs) (t0 : 0 ≤ t) (t1 : t ≤ 549755813888) : K66 (l, hs, t, ()) = some (0, ()) := by
  have d1 : ¬ t < 0 := by omega
  have d2 : ¬ 549755813888 < t := by omega
  rw [K66_eq]; unfold R66
  simp only [K25_s hl, K84_s hh, opt_s, ieqF_eq, iltF_eq, beq_self_eq_true, Bool.not_true, cond_false, d1, d2, decide_false]
  rfl
theorem K78_s {v : View} {c : Nat} {x : Part} (hx : v.2[c]? = some x) : K78 (v, (c : Int), ()) = some (!isZ x, ()) := by
  rw [K78_eq]; unfold R78
  simp only [atI_get hx, opt_s, ieqF_eq]
  rfl
def freeQ (hs : List Part) (c : Nat) : Bool := decide (6 ≤ c) || (hs.zipIdx.all fun p => decide (p.2 = c) || !p.1.2.2)
theorem K85_s {v : View} (hh : v.2.length = 8) (c : Nat) : ∃ b, K85 (v, (c : Int), ()) = some (b, ()) ∧ (b = true → c ≥ 6 ∨ ∀ (j : Nat) x, v.2[j]? = some x → j ≠ c → x.2.2 = false) ∧ (b = false → ∃ (j : Nat) (x : Part), v.2[j]? = some x ∧ j ≠ c ∧ x.2.2 = true) := by
  rw [K85_eq]; unfold R85
  by_cases h6 : (c : Int) < 6
  · rw [show iltF (c : Int) 6 = true by rw [iltF_eq]; simp [h6]]
    simp only [Bool.not_true, cond_false]
    obtain ⟨x, hx, hj⟩ := iter_big (B := fun s0 : ((Bool × (Int × Unit)) × Unit) =>
      bif (iltF (s0.1.2.1) ((((v.2).length : Nat) : Int))) then opt (atI (v.2) (s0.1.2.1)) fun x1 =>
        opt (bif !(ieqF (s0.1.2.1) ((c : Int))) then bif x1.2.2 then some ((0 + 1 : Nat), ((false, ()), ()))
            else some (0, ((s0.1.1, ()), ()))
          else some (0, ((s0.1.1, ()), ()))) fun x2 =>
        bif (Nat.beq x2.1 0) then some (.inr ((x2.2.1.1, ((wrF .i64 ((s0.1.2.1 + 1))), ())), ()))
        else some (.inl ((0 + 1 : Nat), ((x2.2.1.1, (s0.1.2.1, ())), ())))
      else some (.inl (0, ((s0.1.1, (s0.1.2.1, ())), ()))))
      (fun s => ∃ i : Nat, s = ((false, (i : Int), ()), ()) ∧ i ≤ 8 ∧ ∀ (j : Nat) x, j < i → v.2[j]? = some x → j ≠ c → x.2.2 = false)
      (fun x => (∃ y, x = ((0 : Nat), y) ∧ ∀ (j : Nat) x, v.2[j]? = some x → j ≠ c → x.2.2 = false) ∨ (∃ i : Int, x = (1, ((false, (i, ())), ())) ∧ ∃ (j : Nat) (x : Part), v.2[j]? = some x ∧ j ≠ c ∧ x.2.2 = true))
      (fun s => 8 - s.1.2.1.toNat)
      (fun s hs => by
        obtain ⟨i, rfl, hi, hfr⟩ := hs
        by_cases h8 : i < 8
        · have hx : v.2[i]? = some (v.2[i]'(by omega)) := List.getElem?_eq_getElem (by omega)
          have e4 : wrF .i64 ((i : Int) + 1) = ((i + 1 : Nat) : Int) := by rw [wr64] <;> omega
          rw [show iltF (i : Int) ((v.2.length : Nat) : Int) = true by rw [iltF_eq]; simp; omega]
          simp only [cond_true, atI_get hx, opt_s, ieqF_eq]
          by_cases hic : i = c
          · subst hic
            right
            simp only [beq_self_eq_true, Bool.not_true, cond_false, opt_s, show (Nat.beq 0 0) = true from rfl, cond_true, e4]
            exact ⟨_, rfl, ⟨i + 1, rfl, by omega, fun j x hj hx hne => hfr j x (by omega) hx hne⟩, by simp only [Int.toNat_natCast]; omega⟩
          · rw [show (((i : Nat) : Int) == ((c : Nat) : Int)) = false by rw [beq_eq_false_iff_ne]; omega]
            simp only [Bool.not_false, cond_true]
            cases hr : (v.2[i]'(by omega)).2.2 with
            | true =>
              left
              exact ⟨_, rfl, .inr ⟨_, rfl, i, _, hx, hic, hr⟩⟩
            | false =>
              right
              simp only [cond_false, opt_s, show (Nat.beq 0 0) = true from rfl, cond_true, e4]
              refine ⟨_, rfl, ⟨i + 1, rfl, by omega, fun j x hj hx2 hne => ?_⟩, by simp only [Int.toNat_natCast]; omega⟩
              by_cases hji : j = i
              · subst hji; rw [hx] at hx2; cases hx2; exact hr
              · exact hfr j x (by omega) hx2 hne
        · left
          rw [show iltF (i : Int) ((v.2.length : Nat) : Int) = false by rw [iltF_eq]; simp; omega]
          refine ⟨_, rfl, .inl ⟨_, rfl, fun j x hx hne => hfr j x ?_ hx hne⟩⟩
          have := (List.getElem?_eq_some_iff.1 hx).1
          omega)
      (s := ((false, (0, ())), ())) ⟨0, rfl, by omega, fun j x hj => by omega⟩ (by simp only; omega)
    rw [hx]
    simp only [opt_s]
    rcases hj with ⟨y, rfl, hy⟩ | ⟨i, rfl, hy⟩
    · exact ⟨true, rfl, ⟨fun _ => .inr hy, fun h => Bool.noConfusion h⟩⟩
    · exact ⟨false, rfl, ⟨fun h => Bool.noConfusion h, fun _ => hy⟩⟩
  · rw [show iltF (c : Int) 6 = false by rw [iltF_eq]; simp; omega]
    exact ⟨true, rfl, ⟨fun _ => .inl (by omega), fun h => Bool.noConfusion h⟩⟩
theorem K79_s {l : Line} {hs : List Part} (hl : lineOk l) (hh : headsOk hs) {c : Nat} {x : Part} (hx : hs[c]? = some x) {t : Int} (t0 : 0 ≤ t) (t1 : t ≤ 600000000000) : K79 ((l, hs), (c : Int), t, ()) = some (decide (x.2.1 * l.2.1 ≤ openF l.1 c (t + l.2.2)), ()) := by
  have hb := hh.left hx
  have l1 := hl.p0; have l2 := hl.p1; have l3 := hl.s0; have l4 := hl.s1
  have hm := mul_bd (a := x.2.1) (b := l.2.1) hb.1 (by omega) l1 l2
  have hc : c < 8 := by have := (List.getElem?_eq_some_iff.1 hx).1; have := hh.n8; omega
  have e1 : wrF .i64 (t + l.2.2) = t + l.2.2 := wr64 (by omega) (by omega)
  have e2 : wrF .i64 (x.2.1 * l.2.1) = x.2.1 * l.2.1 := wr64 (by omega) (by omega)
  rw [K79_eq]; unfold R79
  simp only [atI_get hx, opt_s, e1, e2]
  rw [K22_s hl.g (by omega) (by omega) (by omega) (by omega) (by omega) (by omega)]
  rfl
theorem K71_s {v : View} {c t : Int} {b1 b2 b3 : Bool} (h1 : K78 (v, c, ()) = some (b1, ())) (h2 : K85 (v, c, ()) = some (b2, ())) (h3 : K79 (v, c, t, ()) = some (b3, ())) : K71 (v, c, t, ()) = some (b1 && b2 && b3, ()) := by
  have w0 : wrF .i64 (0 + 1) = 1 := by rw [wr64] <;> omega
  have w1 : wrF .i64 (1 + 1) = 2 := by rw [wr64] <;> omega
  have w2 : wrF .i64 (2 + 1) = 3 := by rw [wr64] <;> omega
  have w3 : wrF .i64 1 = 1 := by rw [wr64] <;> omega
  have w4 : wrF .i64 2 = 2 := by rw [wr64] <;> omega
  have w5 : wrF .i64 3 = 3 := by rw [wr64] <;> omega
  rw [K71_eq]; unfold R71
  cases b1 with
  | false =>
    rw [iter_steps (st := fun i => ((false, (i : Int), ()), ())) (n := 0) (x := (1, ((false, 0, ()), ()))) ?_ ?_ ?_ (by omega)]
    · rfl
    · rfl
    · intro i hi; omega
    · simp [iltF_eq, ieqF_eq, opt_s, h1]
  | true =>
    cases b2 with
    | false =>
      rw [iter_steps (st := fun i => ((false, (i : Int), ()), ())) (n := 1) (x := (1, ((false, 1, ()), ()))) ?_ ?_ ?_ (by omega)]
      · rfl
      · rfl
      · intro i hi
        obtain rfl : i = 0 := by omega
        simp [iltF_eq, ieqF_eq, opt_s, h1, w3]
      · simp [iltF_eq, ieqF_eq, opt_s, h2]
    | true =>
      cases b3 with
      | false =>
        rw [iter_steps (st := fun i => ((false, (i : Int), ()), ())) (n := 2) (x := (1, ((false, 2, ()), ()))) ?_ ?_ ?_ (by omega)]
        · rfl
        · rfl
        · intro i hi
          have : i = 0 ∨ i = 1 := by omega
          rcases this with rfl | rfl <;> simp [iltF_eq, ieqF_eq, opt_s, h1, h2, w1, w3, w4]
        · simp [iltF_eq, ieqF_eq, opt_s, h3]
      | true =>
        rw [iter_steps (st := fun i => ((false, (i : Int), ()), ())) (n := 3) (x := (0, ((false, 3, ()), ()))) ?_ ?_ ?_ (by omega)]
        · rfl
        · rfl
        · intro i hi
          have : i = 0 ∨ i = 1 ∨ i = 2 := by omega
          rcases this with rfl | rfl | rfl <;> simp [iltF_eq, ieqF_eq, opt_s, h1, h2, h3, w1, w2, w3, w4, w5]
        · simp [iltF_eq]
end Go.Proofs.Ytfpbgiaiifcnlaa.pg
/- What choose's Start and When make of valid lines and heads. -/
namespace Go.Proofs.Ytfpbgiaiifcnlaa.pg
open Go Go.Fz Go.Fz.Sy
set_option linter.unusedVariables false
set_option linter.unusedSimpArgs false
/-- The class may start. -/
structure MayS (l : Line) (hs : List Part) (c : Nat) (t : Int) : Prop where
  full : ∃ x, hs[c]? = some x ∧ partOk x ∧ x.1.2.2.1 = (c : Int) ∧ x.2.1 * l.2.1 ≤ openF l.1 c (t + l.2.2)
  free : c ≥ 6 ∨ ∀ (j : Nat) x, hs[j]? = some x → j ≠ c → x.2.2 = false
theorem may_s {l : Line} {hs : List Part} (hl : lineOk l) (hh : headsOk hs) {c : Nat} (hc : c < 8) {t : Int} (t0 : 0 ≤ t) (t1 : t ≤ 600000000000) : ∃ b, K71 ((l, hs), (c : Int), t, ()) = some (b, ()) ∧ (b = true ↔ MayS l hs c t) := by
  have hx : hs[c]? = some (hs[c]'(by rw [hh.n8]; exact hc)) := List.getElem?_eq_getElem _
  generalize hs[c]'(by rw [hh.n8]; exact hc) = x at hx
  obtain ⟨b2, k2, f2, g2⟩ := K85_s (v := (l, hs)) hh.n8 c
  refine ⟨_, K71_s (K78_s (v := (l, hs)) hx) k2 (K79_s hl hh hx t0 t1), ?_⟩
  constructor
  · intro h
    simp only [Bool.and_eq_true, Bool.not_eq_true', decide_eq_true_eq] at h
    obtain ⟨⟨h1, h2⟩, h3⟩ := h
    refine ⟨⟨x, hx, ?_⟩, f2 h2⟩
    rcases hh.ps c x hx with rfl | ⟨p1, p2⟩
    · cases h1
    · exact ⟨p1, p2, h3⟩
  · rintro ⟨⟨y, hy, p1, p2, p3⟩, hf⟩
    rw [hx] at hy; cases hy
    have hb : b2 = true := by
      cases b2 with
      | true => rfl
      | false =>
        obtain ⟨j, z, hz, hne, hr⟩ := g2 rfl
        rcases hf with h6 | hf
        · exfalso
          rw [K85_eq] at k2; unfold R85 at k2
          rw [show iltF (c : Int) 6 = false by rw [iltF_eq]; simp; omega] at k2
          simp at k2
        · rw [hf j z hz hne] at hr; cases hr
    rw [isZ_ok p1, hb]
    simp [p3]
/-- Which class starts. -/
theorem K58_s {l : Line} {hs : List Part} (hl : lineOk l) (hh : headsOk hs) {t : Int} (t0 : 0 ≤ t) (t1 : t ≤ 549755813888) :
    (∃ c : Nat, K58 (l, hs, t, ()) = some ((c : Int), 0, ()) ∧ c < 8 ∧ MayS l hs c t ∧ ∀ d, c < d → d < 8 → ¬ MayS l hs d t) ∨ (K58 (l, hs, t, ()) = some (0, 4, ()) ∧ ∀ d, d < 8 → ¬ MayS l hs d t) := by
  rw [K58_eq]; unfold R58
  simp only [K66_s hl hh t0 t1, opt_s, ieqF_eq, beq_self_eq_true, Bool.not_true, cond_false]
  obtain ⟨x, hx, hj⟩ := iter_big (B := fun s1 : ((Int × (Int × (Int × (Int × Unit)))) × (Unit × (Unit × Unit))) =>
      bif !(iltF (s1.1.2.2.2.1) (0)) then opt (K71 (((l, hs), (s1.1.2.2.2.1, (s1.1.2.2.1, ()))))) fun x2 =>
        bif !x2.1 then some (.inr ((s1.1.1, (s1.1.2.1, (s1.1.2.2.1, ((wrF .i64 ((s1.1.2.2.2.1 - 1))), ())))), ((), ((), ()))))
        else some (.inl ((((0 + 1) + 1) + 1), ((s1.1.2.2.2.1, (0, (s1.1.2.2.1, (s1.1.2.2.2.1, ())))), ((), ((), ())))))
      else some (.inl (0, ((s1.1.1, (s1.1.2.1, (s1.1.2.2.1, (s1.1.2.2.2.1, ())))), ((), ((), ()))))))
    (fun s => ∃ k : Nat, s = ((0, (4, (t, ((k : Int) - 1, ())))), ((), ((), ()))) ∧ k ≤ 8 ∧ ∀ d, k ≤ d → d < 8 → ¬ MayS l hs d t)
    (fun x => (∃ c : Nat, ∃ y z, x = ((3 : Nat), (((c : Int), (0, y)), z)) ∧ c < 8 ∧ MayS l hs c t ∧ ∀ d, c < d → d < 8 → ¬ MayS l hs d t) ∨ (∃ y z, x = ((0 : Nat), ((0, (4, y)), z)) ∧ ∀ d, d < 8 → ¬ MayS l hs d t))
    (fun s => (s.1.2.2.2.1 + 1).toNat)
    (fun s hs' => by
      obtain ⟨k, rfl, hk, hno⟩ := hs'
      cases k with
      | zero =>
        left
        exact ⟨_, rfl, .inr ⟨_, _, rfl, fun d hd => hno d (Nat.zero_le _) hd⟩⟩
      | succ k =>
        have e1 : (((k + 1 : Nat) : Int) - 1) = (k : Int) := by omega
        rw [e1]
        obtain ⟨b, hb, hm⟩ := may_s hl hh (c := k) (by omega) t0 (t := t) (by omega)
        simp only
        rw [show iltF (k : Int) 0 = false by rw [iltF_eq]; exact decide_eq_false (by omega)]
        simp only [Bool.not_false, cond_true, hb, opt_s]
        cases b with
        | true =>
          left
          exact ⟨_, rfl, .inl ⟨k, _, _, rfl, by omega, hm.1 rfl, fun d h1 h2 => hno d (by omega) h2⟩⟩
        | false =>
          right
          have e2 : wrF .i64 ((k : Int) - 1) = (k : Int) - 1 := wr64 (by omega) (by omega)
          simp only [Bool.not_false, cond_true, e2]
          refine ⟨_, rfl, ⟨k, rfl, by omega, fun d h1 h2 hd => ?_⟩, by simp only; omega⟩
          by_cases hdk : d = k
          · subst hdk; exact absurd (hm.2 hd) (by simp)
          · exact hno d (by omega) h2 hd)
    (s := ((0, (4, (t, (7, ())))), ((), ((), ())))) ⟨8, rfl, by omega, fun d h1 h2 => by omega⟩ (by simp only; omega)
  rw [hx]
  simp only [opt_s]
  rcases hj with ⟨c, y, z, rfl, h1, h2, h3⟩ | ⟨y, z, rfl, h1⟩
  · left; exact ⟨c, rfl, h1, h2, h3⟩
  · right; exact ⟨rfl, h1⟩
/-- When a class may start. -/
theorem K67_s {l : Line} {hs : List Part} (hl : lineOk l) (hh : headsOk hs) {c : Nat} (hc : c < 8) {t : Int} (t0 : 0 ≤ t) (t1 : t ≤ 549755813888) :
    (∃ a, K67 ((l, hs), (c : Int), t, ()) = some (a, 0, ()) ∧ t ≤ a ∧ a ≤ t + 20000000 ∧ (MayS l hs c t → a = t)) ∨ (K67 ((l, hs), (c : Int), t, ()) = some (0, 4, ()) ∧ ¬ MayS l hs c t) := by
  have hx : hs[c]? = some (hs[c]'(by rw [hh.n8]; exact hc)) := List.getElem?_eq_getElem _
  generalize hs[c]'(by rw [hh.n8]; exact hc) = x at hx
  obtain ⟨b2, k2, f2, g2⟩ := K85_s (v := (l, hs)) hh.n8 c
  have l1 := hl.p0; have l2 := hl.p1; have l3 := hl.s0; have l4 := hl.s1
  have hb := hh.left hx
  have hm := mul_bd (a := x.2.1) (b := l.2.1) hb.1 (by omega) l1 l2
  have e1 : wrF .i64 (t + l.2.2) = t + l.2.2 := wr64 (by omega) (by omega)
  have e2 : wrF .i64 (x.2.1 * l.2.1) = x.2.1 * l.2.1 := wr64 (by omega) (by omega)
  obtain ⟨b, hb71, hmay⟩ := may_s hl hh hc t0 (t := t) (by omega)
  rw [K67_eq]; unfold R67
  simp only [K78_s (v := (l, hs)) hx, opt_s]
  cases hz : isZ x with
  | true =>
    right
    refine ⟨rfl, fun hM => ?_⟩
    obtain ⟨⟨y, hy, p1, _⟩, _⟩ := hM
    rw [hx] at hy; cases hy
    rw [isZ_ok p1] at hz; cases hz
  | false =>
    simp only [Bool.not_false, Bool.not_true, cond_false, k2, opt_s]
    cases b2 with
    | false =>
      right
      refine ⟨rfl, fun hM => ?_⟩
      have h7 := K71_s (K78_s (v := (l, hs)) hx) k2 (K79_s hl hh hx t0 (t := t) (by omega))
      rw [hb71] at h7
      have := hmay.2 hM
      subst this
      simp at h7
    | true =>
      simp only [Bool.not_true, cond_false, opt_s, show (Nat.beq 0 0) = true from rfl, cond_true, atI_get hx, e1, e2]
      rcases K86_s hl.g (c := (c : Int)) (t := t + l.2.2) (l := x.2.1 * l.2.1) (by omega) (by omega) (by omega) (by omega) (by omega) (by omega) with ⟨a, h1, h2, h3, h4, h5⟩ | ⟨h1, hno⟩
      · left
        have hcy := hl.g.c1
        have e3 : wrF .i64 (a - l.2.2) = a - l.2.2 := wr64 (by omega) (by omega)
        rw [h1]
        simp only [opt_s, ieqF_eq, beq_self_eq_true, Bool.not_true, cond_false, e3]
        refine ⟨_, rfl, by omega, by omega, fun hM => ?_⟩
        obtain ⟨⟨y, hy, _, _, p3⟩, _⟩ := hM
        rw [hx] at hy; cases hy
        have := h5 p3
        omega
      · right
        rw [h1]
        refine ⟨rfl, fun hM => ?_⟩
        obtain ⟨⟨y, hy, _, _, p3⟩, _⟩ := hM
        rw [hx] at hy; cases hy
        exact hno p3
/-- When any class may start. -/
theorem K51_s {l : Line} {hs : List Part} (hl : lineOk l) (hh : headsOk hs) {t : Int} (t0 : 0 ≤ t) (t1 : t ≤ 549755813888) :
    (∃ a, K51 (l, hs, t, ()) = some (a, 0, ()) ∧ t ≤ a ∧ a ≤ t + 20000000 ∧ ∀ c, c < 8 → MayS l hs c t → a = t) ∨ (K51 (l, hs, t, ()) = some (0, 4, ()) ∧ ∀ c, c < 8 → ¬ MayS l hs c t) := by
  rw [K51_eq]; unfold R51
  simp only [K66_s hl hh t0 t1, opt_s, ieqF_eq (0 : Int) 0, beq_self_eq_true, Bool.not_true, cond_false]
  obtain ⟨x, hx, hj⟩ := iter_big (B := fun s1 : ((Int × (Int × (Int × (Int × Unit)))) × (Unit × (Unit × Unit))) =>
      bif !(iltF (s1.1.2.2.2.1) (0)) then opt (K67 (((l, hs), (s1.1.2.2.2.1, (s1.1.1, ()))))) fun x2 =>
        opt (bif (ieqF (x2.2.1) (0)) then bif !(ieqF (s1.1.2.2.1) (0)) then some (0, ((x2.1, (0, ())), ((), ())))
            else bif (iltF (x2.1) (s1.1.2.1)) then some (0, ((x2.1, (0, ())), ((), ())))
              else some ((0 : Nat), ((s1.1.2.1, (s1.1.2.2.1, ())), ((), ())))
          else some (0, ((s1.1.2.1, (s1.1.2.2.1, ())), ((), ())))) fun x3 =>
        some (.inr ((s1.1.1, (x3.2.1.1, (x3.2.1.2.1, ((wrF .i64 ((s1.1.2.2.2.1 - 1))), ())))), ((), ((), ()))))
      else some (.inl ((0 : Nat), ((s1.1.1, (s1.1.2.1, (s1.1.2.2.1, (s1.1.2.2.2.1, ())))), ((), ((), ()))))))
    (fun s => ∃ (k : Nat) (a e : Int), s = ((t, (a, (e, ((k : Int) - 1, ())))), ((), ((), ()))) ∧ k ≤ 8 ∧ ((a = 0 ∧ e = 4 ∧ ∀ d, k ≤ d → d < 8 → ¬ MayS l hs d t) ∨ (e = 0 ∧ t ≤ a ∧ a ≤ t + 20000000 ∧ ∀ d, k ≤ d → d < 8 → MayS l hs d t → a = t)))
    (fun x => ∃ (a e : Int) (y : Int × Unit) (z : Unit × Unit × Unit), x = ((0 : Nat), ((t, (a, (e, y))), z)) ∧ ((a = 0 ∧ e = 4 ∧ ∀ d, d < 8 → ¬ MayS l hs d t) ∨ (e = 0 ∧ t ≤ a ∧ a ≤ t + 20000000 ∧ ∀ d, d < 8 → MayS l hs d t → a = t)))
    (fun s => (s.1.2.2.2.1 + 1).toNat)
    (fun s hs' => by
      obtain ⟨k, a, e, rfl, hk, hst⟩ := hs'
      cases k with
      | zero =>
        left
        refine ⟨_, rfl, a, e, _, _, rfl, ?_⟩
        rcases hst with ⟨h1, h2, h3⟩ | ⟨h1, h2, h3, h4⟩
        · exact .inl ⟨h1, h2, fun d hd => h3 d (Nat.zero_le _) hd⟩
        · exact .inr ⟨h1, h2, h3, fun d hd => h4 d (Nat.zero_le _) hd⟩
      | succ k =>
        right
        have e1 : (((k + 1 : Nat) : Int) - 1) = (k : Int) := by omega
        have e2 : wrF .i64 ((k : Int) - 1) = (k : Int) - 1 := wr64 (by omega) (by omega)
        have hlt0 : iltF (k : Int) 0 = false := by rw [iltF_eq]; exact decide_eq_false (by omega)
        rw [e1]
        simp only [hlt0, Bool.not_false, cond_true, e2]
        have hm : ((k : Int) - 1 + 1).toNat < ((k : Int) + 1).toNat := by omega
        rcases K67_s hl hh (c := k) (by omega) t0 t1 with ⟨b, h1, h2, h3, h4⟩ | ⟨h1, h2⟩
        · rw [h1]
          simp only [opt_s, show ieqF (0 : Int) 0 = true from rfl, cond_true]
          rcases hst with ⟨q1, q2, q3⟩ | ⟨q1, q2, q3, q4⟩
          · subst q2
            simp only [show ieqF (4 : Int) 0 = false from rfl, Bool.not_false, cond_true, opt_s]
            refine ⟨_, rfl, ⟨k, _, _, rfl, by omega, .inr ⟨rfl, h2, h3, fun d d1 d2 dM => ?_⟩⟩, hm⟩
            by_cases hdk : d = k
            · subst hdk; exact h4 dM
            · exact absurd dM (q3 d (by omega) d2)
          · subst q1
            simp only [show ieqF (0 : Int) 0 = true from rfl, Bool.not_true, cond_false, iltF_eq]
            by_cases hba : b < a
            · simp only [hba, decide_true, cond_true, opt_s]
              refine ⟨_, rfl, ⟨k, _, _, rfl, by omega, .inr ⟨rfl, h2, h3, fun d d1 d2 dM => ?_⟩⟩, hm⟩
              by_cases hdk : d = k
              · subst hdk; exact h4 dM
              · have := q4 d (by omega) d2 dM; omega
            · simp only [hba, decide_false, cond_false, opt_s]
              refine ⟨_, rfl, ⟨k, _, _, rfl, by omega, .inr ⟨rfl, q2, q3, fun d d1 d2 dM => ?_⟩⟩, hm⟩
              by_cases hdk : d = k
              · subst hdk; have := h4 dM; omega
              · exact q4 d (by omega) d2 dM
        · rw [h1]
          simp only [opt_s, show ieqF (4 : Int) 0 = false from rfl, cond_false]
          refine ⟨_, rfl, ⟨k, _, _, rfl, by omega, ?_⟩, hm⟩
          rcases hst with ⟨q1, q2, q3⟩ | ⟨q1, q2, q3, q4⟩
          · refine .inl ⟨q1, q2, fun d d1 d2 dM => ?_⟩
            by_cases hdk : d = k
            · subst hdk; exact h2 dM
            · exact q3 d (by omega) d2 dM
          · refine .inr ⟨q1, q2, q3, fun d d1 d2 dM => ?_⟩
            by_cases hdk : d = k
            · subst hdk; exact absurd dM h2
            · exact q4 d (by omega) d2 dM)
    (s := ((t, (0, (4, (7, ())))), ((), ((), ())))) ⟨8, 0, 4, rfl, by omega, .inl ⟨rfl, rfl, fun d h1 h2 => by omega⟩⟩ (by simp only; omega)
  rw [hx]
  simp only [opt_s]
  obtain ⟨a, e, y, z, rfl, hj⟩ := hj
  rcases hj with ⟨rfl, rfl, h3⟩ | ⟨rfl, h2, h3, h4⟩
  · right; exact ⟨rfl, h3⟩
  · left; exact ⟨a, rfl, h2, h3, h4⟩
end Go.Proofs.Ytfpbgiaiifcnlaa.pg
/- What the port's functions make of valid ports: heads, start, choose. -/
namespace Go.Proofs.Ytfpbgiaiifcnlaa.pg
open Go Go.Fz Go.Fz.Sy
set_option linter.unusedVariables false
set_option linter.unusedSimpArgs false
theorem rq_hd {q : Queue} (h : queueOk q) : rq q.2 = r1 (hd q) := by
  unfold hd
  cases hq : q.2 with
  | nil => rfl
  | cons x r =>
    simp only
    have hr : ∀ y ∈ r, r1 y = 0 := fun y hy => by
      obtain ⟨i, hi⟩ := List.getElem?_of_mem hy
      unfold r1
      cases hb : y.2.2 with
      | false => rfl
      | true =>
        have := h.rs (i + 1) y (by rw [hq]; simpa using hi) hb
        omega
    have h0 : ∀ l : List Part, (∀ y ∈ l, r1 y = 0) → (l.map r1).sum = 0 := fun l => by
      induction l with
      | nil => intro _; rfl
      | cons a l ih =>
        intro h
        rw [List.map_cons, List.sum_cons, h a (by simp), ih (fun y hy => h y (by simp [hy]))]; rfl
    unfold rq
    rw [List.map_cons, List.sum_cons, h0 r hr]; omega
theorem heads_ok {qs : List Queue} (h : qsOk qs) (hr : rT qs ≤ 1) : headsOk (qs.map hd) ∧ rq (qs.map hd) = rT qs := by
  have he : rq (qs.map hd) = rT qs := by
    unfold rq rT
    rw [List.map_map]
    congr 1
    refine List.map_congr_left fun q hq => ?_
    obtain ⟨i, hi⟩ := List.getElem?_of_mem hq
    exact (rq_hd (h.qs i q hi).1).symm
  refine ⟨⟨by simp [h.n8], fun i x hx => ?_, by omega⟩, he⟩
  simp only [List.getElem?_map, Option.map_eq_some_iff] at hx
  obtain ⟨q, hq, rfl⟩ := hx
  obtain ⟨h1, h2⟩ := h.qs i q hq
  unfold hd
  cases hq2 : q.2 with
  | nil => exact .inl rfl
  | cons y r => exact .inr ⟨h1.ps y (by rw [hq2]; simp), h2 y (by rw [hq2]; simp)⟩
theorem set_mid {α : Type} (A : List α) (y z : α) (n : Nat) : (A ++ List.replicate (n + 1) z).set A.length y = A ++ y :: List.replicate n z := by
  rw [List.set_append_right _ _ (Nat.le_refl _)]
  simp [List.replicate_succ]
theorem K52_s {p : Port} (h : qsOk p.2.2.1) : K52 (p, ()) = some (p.2.2.1.map hd, ()) := by
  have h8 := h.n8
  have hlen : ∀ i, i ≤ 8 → ((p.2.2.1.map hd).take i).length = i := fun i hi => by simp; omega
  rw [K52_eq]; unfold R52
  rw [show mkOk 8 8 56 = true from rfl, cond_true]
  rw [iter_steps (st := fun i => (((i : Int), ()), ((p.2.2.1.map hd).take i ++ List.replicate (8 - i) zP, ()))) (n := 8) (x := (0, (((8 : Int), ()), (p.2.2.1.map hd, ())))) ?_ ?_ ?_ (by omega)]
  · rfl
  · rfl
  · intro i hi
    have hx : p.2.2.1[i]? = some (p.2.2.1[i]'(by omega)) := List.getElem?_eq_getElem (by omega)
    generalize p.2.2.1[i]'(by omega) = q at hx
    obtain ⟨hq, _⟩ := h.qs i q hx
    have e4 : wrF .i64 ((i : Int) + 1) = ((i + 1 : Nat) : Int) := by rw [wr64] <;> omega
    have hlt : iltF (i : Int) ((p.2.2.1.length : Nat) : Int) = true := by rw [iltF_eq]; exact decide_eq_true (by omega)
    have hti : (p.2.2.1.map hd).take (i + 1) = (p.2.2.1.map hd).take i ++ [hd q] := by
      rw [List.take_add_one]; simp [hx]
    have h81 : 8 - i = (8 - (i + 1)) + 1 := by omega
    simp only [hlt, cond_true, atI_get hx, opt_s, K69_s hq, e4]
    cases he : q.2.isEmpty with
    | true =>
      have hz : hd q = zP := by unfold hd; cases hq2 : q.2 with
        | nil => rfl
        | cons a b => rw [hq2] at he; cases he
      simp only [Bool.not_true, cond_false, opt_s]
      rw [hti, hz, h81, List.replicate_succ]
      simp
    | false =>
      have hb := set_mid ((p.2.2.1.map hd).take i) (hd q) zP (8 - (i + 1))
      rw [hlen i (by omega)] at hb
      have hg : ((p.2.2.1.map hd).take i ++ List.replicate (8 - (i + 1) + 1) zP)[i]? = some zP := by
        rw [List.getElem?_append_right (by rw [hlen i (by omega)]; omega), hlen i (by omega)]; simp
      simp only [Bool.not_false, cond_true]
      rw [h81, atI_get hg]
      simp only [opt_s, Int.toNat_natCast, gl_eq, hg, hb]
      rw [hti]
      simp [h81]
  · have hlt : iltF ((8 : Nat) : Int) ((p.2.2.1.length : Nat) : Int) = false := by rw [iltF_eq]; exact decide_eq_false (by omega)
    simp only [hlt, cond_false]
    rw [List.take_of_length_le (by simp; omega)]
    simp
theorem copyL_full {α : Type} (l : List α) (z : α) : copyL (List.replicate l.length z) l = l := by
  unfold copyL; simp
theorem mkOk_8 {l : List Queue} (h : l.length = 8) : mkOk ((l.length : Nat) : Int) ((l.length : Nat) : Int) 32 = true := by rw [h]; rfl
def startP (p : Port) (c : Nat) (cap : Int) (x : Part) (r : List Part) (t : Int) : Port := (p.1, (p.2.1, (p.2.2.1.set c (cap, r), true, x, t, t + x.2.1 * p.1.2.1, 0)))
theorem K59_s {p : Port} (hl : lineOk p.1) (h : qsOk p.2.2.1) {c : Nat} {q : Queue} (hq : p.2.2.1[c]? = some q) {x : Part} {r : List Part} (hx : q.2 = x :: r) {t : Int} (t0 : 0 ≤ t) (t1 : t ≤ 600000000000) : K59 (p, (c : Int), t, ()) = some (startP p c q.1 x r t, ()) := by
  obtain ⟨h1, h2⟩ := h.qs c q hq
  have hp := h1.ps x (by rw [hx]; simp)
  have hb := hp.left
  have l1 := hl.p0; have l2 := hl.p1
  have hm := mul_bd (a := x.2.1) (b := p.1.2.1) (by omega) (by omega) l1 l2
  have e1 : wrF .i64 (x.2.1 * p.1.2.1) = x.2.1 * p.1.2.1 := wr64 (by omega) (by omega)
  have e2 : wrF .i64 (t + x.2.1 * p.1.2.1) = t + x.2.1 * p.1.2.1 := wr64 (by omega) (by omega)
  have hz := isZ_ok hp
  unfold isZ at hz
  rw [K59_eq]; unfold R59
  simp only [mkOk_8 h.n8, cond_true, Int.toNat_natCast, copyL_full, atI_get hq, gl_eq, hq, opt_s, K75_s h1 hx, ieqF_eq, beq_self_eq_true, Bool.not_true, cond_false, e1, e2]
  rw [hz]
  rfl
/-- Where a fragment may be cut. -/
theorem K60_s {l : Line} {hs : List Part} (hl : lineOk l) (hh : headsOk hs) {o b t : Int} (o0 : 84 ≤ o) (o1 : o ≤ 1542) (b0 : 0 ≤ b) (bt : b ≤ t) (tb : t ≤ b + o * l.2.1) (t1 : t ≤ 549755813888) :
    (∃ k : Int, K60 (l, hs, o, b, t, ()) = some (b + (k + 24) * l.2.1, o - k + 24, 0, ()) ∧ 64 ≤ k ∧ 64 ≤ o - k ∧ t - b ≤ k * l.2.1) ∨ K60 (l, hs, o, b, t, ()) = some (0, 0, 4, ()) := by
  have l1 := hl.p0; have l2 := hl.p1
  have hm := mul_bd (a := o) (b := l.2.1) (by omega) (by omega) l1 l2
  have c1 : iltF o 84 = false := by rw [iltF_eq]; exact decide_eq_false (by omega)
  have c2 : iltF 1542 o = false := by rw [iltF_eq]; exact decide_eq_false (by omega)
  have c3 : iltF b 0 = false := by rw [iltF_eq]; exact decide_eq_false (by omega)
  have c4 : iltF t b = false := by rw [iltF_eq]; exact decide_eq_false (by omega)
  have c5 : iltF (b + o * l.2.1) t = false := by rw [iltF_eq]; exact decide_eq_false (by omega)
  have e1 : wrF .i64 (o * l.2.1) = o * l.2.1 := wr64 (by omega) (by omega)
  have e2 : wrF .i64 (b + o * l.2.1) = b + o * l.2.1 := wr64 (by omega) (by omega)
  have e3 : wrF .i64 (t - b) = t - b := wr64 (by omega) (by omega)
  have e4 : wrF .i64 (t - b + l.2.1) = t - b + l.2.1 := wr64 (by omega) (by omega)
  have e5 : wrF .i64 (t - b + l.2.1 - 1) = t - b + l.2.1 - 1 := wr64 (by omega) (by omega)
  have hz : ieqF l.2.1 0 = false := by rw [ieqF_eq, beq_eq_false_iff_ne]; omega
  have hq0 : Int.tdiv (t - b + l.2.1 - 1) l.2.1 = (t - b + l.2.1 - 1) / l.2.1 := Int.tdiv_eq_ediv_of_nonneg (by omega)
  have hq1 : (t - b + l.2.1 - 1) / l.2.1 * l.2.1 + (t - b + l.2.1 - 1) % l.2.1 = t - b + l.2.1 - 1 := by
    have := Int.mul_ediv_add_emod (t - b + l.2.1 - 1) l.2.1
    rw [Int.mul_comm] at this; exact this
  have hq2 := Int.emod_nonneg (t - b + l.2.1 - 1) (show l.2.1 ≠ 0 by omega)
  have hq3 := Int.emod_lt_of_pos (t - b + l.2.1 - 1) (show 0 < l.2.1 by omega)
  have hq4 : 0 ≤ (t - b + l.2.1 - 1) / l.2.1 := Int.ediv_nonneg (by omega) (by omega)
  have hq5 : (t - b + l.2.1 - 1) / l.2.1 ≤ 1543 := by
    refine Int.le_of_lt_add_one (Int.ediv_lt_of_lt_mul (by omega) ?_)
    have : (1543 + 1) * l.2.1 = 1544 * l.2.1 := rfl
    have h2 : o * l.2.1 ≤ 1542 * l.2.1 := Int.mul_le_mul_of_nonneg_right o1 (by omega)
    omega
  have e6 : wrF .i64 (Int.tdiv (t - b + l.2.1 - 1) l.2.1) = (t - b + l.2.1 - 1) / l.2.1 := by rw [hq0]; exact wr64 (by omega) (by omega)
  generalize hk0 : (t - b + l.2.1 - 1) / l.2.1 = k0 at *
  have e7 : ∃ k, maxI 64 k0 = k ∧ 64 ≤ k ∧ k0 ≤ k ∧ k ≤ 1543 := by
    unfold maxI
    rw [iltF_eq]
    by_cases h : 64 < k0
    · exact ⟨k0, by simp [h], by omega, by omega, by omega⟩
    · exact ⟨64, by simp [h], by omega, by omega, by omega⟩
  obtain ⟨k, hk, hk1, hk2, hk3⟩ := e7
  have e8 : wrF .i64 (o - k) = o - k := wr64 (by omega) (by omega)
  have e9 : wrF .i64 (k + 24) = k + 24 := wr64 (by omega) (by omega)
  have hm2 := mul_bd (a := k + 24) (b := l.2.1) (by omega) (by omega) l1 l2
  have e10 : wrF .i64 ((k + 24) * l.2.1) = (k + 24) * l.2.1 := wr64 (by omega) (by omega)
  have e11 : wrF .i64 (b + (k + 24) * l.2.1) = b + (k + 24) * l.2.1 := wr64 (by omega) (by omega)
  have e12 : wrF .i64 (o - k + 24) = o - k + 24 := wr64 (by omega) (by omega)
  have hkt : t - b ≤ k * l.2.1 := by
    have : k0 * l.2.1 ≤ k * l.2.1 := Int.mul_le_mul_of_nonneg_right hk2 (by omega)
    omega
  rw [K60_eq]; unfold R60
  simp only [K66_s hl hh (show 0 ≤ t by omega) t1, opt_s, show ieqF (0 : Int) 0 = true from rfl, Bool.not_true, cond_false, e1, e2, e3, e4, e5, c1, c2, c3, c4, c5, show (Nat.beq 0 0) = true from rfl, cond_true, hz, e6, hk, e8, e9, e10, e11]
  by_cases ho : o - k < 64
  · right
    rw [show iltF (o - k) 64 = true by rw [iltF_eq]; exact decide_eq_true ho]
    rfl
  · rw [show iltF (o - k) 64 = false by rw [iltF_eq]; exact decide_eq_false ho]
    simp only [cond_false]
    obtain ⟨x, hx, hj⟩ := iter_big (B := fun s2 : (((Int × Int) × (Int × (View × (Int × (Int × (Int × (Int × Unit))))))) × (Unit × (Unit × Unit))) =>
            bif !(iltF (s2.1.2.2.2.2.2.2.1) (6)) then opt (opt (K78 ((s2.1.2.2.1, (s2.1.2.2.2.2.2.2.1, ())))) fun x3 =>
                bif !x3.1 then some ((0 + 1 : Nat), (((0, 0), (s2.1.1, (s2.1.2.1, (s2.1.2.2.1, (s2.1.2.2.2.1, (s2.1.2.2.2.2.1, (s2.1.2.2.2.2.2.1, (4, ())))))))), ((), ())))
                else opt (K79 ((s2.1.2.2.1, (s2.1.2.2.2.2.2.2.1, (s2.1.2.2.2.1, ()))))) fun x4 =>
                  bif !x4.1 then some ((0 + 1), (((0, 0), (s2.1.1, (s2.1.2.1, (s2.1.2.2.1, (s2.1.2.2.2.1, (s2.1.2.2.2.2.1, (s2.1.2.2.2.2.2.1, (4, ())))))))), ((), ())))
                  else some (0, (((0, 0), (s2.1.1, (s2.1.2.1, (s2.1.2.2.1, (s2.1.2.2.2.1, (s2.1.2.2.2.2.1, (s2.1.2.2.2.2.2.1, (0, ())))))))), ((), ())))) fun x5 =>
              bif (Nat.beq x5.1 0) then some (.inl ((((0 + 1) + 1) + 1 : Nat), (((x5.2.1.2.2.2.2.1, (wrF .i64 (((wrF .i64 ((x5.2.1.2.2.2.2.2.1 - x5.2.1.2.2.2.2.2.2.1))) + 24)))), (0, (x5.2.1.2.2.2.1, (x5.2.1.2.2.2.2.1, (x5.2.1.2.2.2.2.2.1, (x5.2.1.2.2.2.2.2.2.1, (s2.1.2.2.2.2.2.2.1, ()))))))), ((), ((), ())))))
              else bif (ieqF (x5.2.1.2.2.2.2.2.2.2.1) (0)) then some (.inl ((((0 + 1) + 1) + 1), ((x5.2.1.1, (0, (x5.2.1.2.2.2.1, (x5.2.1.2.2.2.2.1, (x5.2.1.2.2.2.2.2.1, (x5.2.1.2.2.2.2.2.2.1, (s2.1.2.2.2.2.2.2.1, ()))))))), ((), ((), ())))))
                else some (.inr ((x5.2.1.2.1, (x5.2.1.2.2.1, (x5.2.1.2.2.2.1, (x5.2.1.2.2.2.2.1, (x5.2.1.2.2.2.2.2.1, (x5.2.1.2.2.2.2.2.2.1, ((wrF .i64 ((s2.1.2.2.2.2.2.2.1 - 1))), ()))))))), ((), ((), ()))))
            else some (.inl (0, ((s2.1.1, (s2.1.2.1, (s2.1.2.2.1, (s2.1.2.2.2.1, (s2.1.2.2.2.2.1, (s2.1.2.2.2.2.2.1, (s2.1.2.2.2.2.2.2.1, ()))))))), ((), ((), ()))))))
      (fun s => ∃ c : Nat, s = (((0, 0), (4, ((l, hs), (b + (k + 24) * l.2.1, (o, (k, ((c : Int), ()))))))), ((), ((), ()))) ∧ 5 ≤ c ∧ c ≤ 7)
      (fun x => (∃ (j : Nat) (y : _) (z : _), x = (j, (((b + (k + 24) * l.2.1, o - k + 24), (0, y)), z))) ∨ (∃ (j : Nat) (y : _) (z : _), x = (j, (((0, 0), (4, y)), z))))
      (fun s => s.1.2.2.2.2.2.2.1.toNat)
      (fun s hs' => by
        obtain ⟨c, rfl, hc5, hc7⟩ := hs'
        by_cases h6 : (c : Int) < 6
        · left
          have h6' : iltF (c : Int) 6 = true := by rw [iltF_eq]; exact decide_eq_true h6
          simp only [h6', Bool.not_true, cond_false]
          exact ⟨_, rfl, .inr ⟨_, _, _, rfl⟩⟩
        · have hx : hs[c]? = some (hs[c]'(by rw [hh.n8]; omega)) := List.getElem?_eq_getElem _
          generalize hs[c]'(by rw [hh.n8]; omega) = x at hx
          have w : wrF .i64 ((c : Int) - 1) = ((c - 1 : Nat) : Int) := by rw [wr64] <;> omega
          have hlt : ((c - 1 : Nat) : Int).toNat < ((c : Nat) : Int).toNat := by omega
          have h6' : iltF (c : Int) 6 = false := by rw [iltF_eq]; exact decide_eq_false h6
          simp only [h6', Bool.not_false, cond_true, K78_s (v := (l, hs)) hx, K79_s hl hh hx (t := b + (k + 24) * l.2.1) (by omega) (by omega), opt_s]
          cases hz : isZ x with
          | true =>
            right
            simp only [Bool.not_true, Bool.not_false, cond_true, opt_s, show (Nat.beq 1 0) = false from rfl, cond_false, show ieqF (4 : Int) 0 = false from rfl, w]
            exact ⟨_, rfl, ⟨c - 1, rfl, by omega, by omega⟩, hlt⟩
          | false =>
            simp only [Bool.not_true, Bool.not_false, cond_false]
            by_cases hf : x.2.1 * l.2.1 ≤ openF l.1 (c : Int) (b + (k + 24) * l.2.1 + l.2.2)
            · left
              simp only [hf, decide_true, Bool.not_true, cond_false, opt_s, show (Nat.beq 0 0) = true from rfl, cond_true, e8, e12]
              exact ⟨_, rfl, .inl ⟨_, _, _, rfl⟩⟩
            · right
              simp only [hf, decide_false, Bool.not_false, cond_true, opt_s, show (Nat.beq 1 0) = false from rfl, cond_false, show ieqF (4 : Int) 0 = false from rfl, w]
              exact ⟨_, rfl, ⟨c - 1, rfl, by omega, by omega⟩, hlt⟩)
      (s := (((0, 0), (4, ((l, hs), (b + (k + 24) * l.2.1, (o, (k, (7, ()))))))), ((), ((), ())))) ⟨7, rfl, by omega, by omega⟩ (by simp only; omega)
    rw [hx]
    simp only [opt_s]
    rcases hj with ⟨j, y, z, rfl⟩ | ⟨j, y, z, rfl⟩
    · left
      refine ⟨k, ?_, hk1, by omega, hkt⟩
      simp only
      cases Nat.beq j 0 <;> cases Nat.beq j (0 + 1) <;> cases Nat.beq j (0 + 1 + 1) <;> rfl
    · right
      simp only
      cases Nat.beq j 0 <;> cases Nat.beq j (0 + 1) <;> cases Nat.beq j (0 + 1 + 1) <;> rfl
end Go.Proofs.Ytfpbgiaiifcnlaa.pg
/- What the port's steps make of valid ports: Choose, Arrive, End, Next; valid ports stay valid. -/
namespace Go.Proofs.Ytfpbgiaiifcnlaa.pg
open Go Go.Fz Go.Fz.Sy
set_option linter.unusedVariables false
set_option linter.unusedSimpArgs false
theorem sum_set {l : List Int} {i : Nat} {a b : Int} (h : l[i]? = some a) : (l.set i b).sum = l.sum - a + b := by
  induction l generalizing i with
  | nil => simp at h
  | cons x l ih =>
    cases i with
    | zero => simp at h; subst h; simp; omega
    | succ i => simp at h; simp [ih h]; omega
theorem rT_set {qs : List Queue} {c : Nat} {q q' : Queue} (h : qs[c]? = some q) : rT (qs.set c q') = rT qs - rq q.2 + rq q'.2 := by
  unfold rT
  rw [List.map_set]
  exact sum_set (by simp [h])
theorem rq_nn (l : List Part) : 0 ≤ rq l := (rq_all l).1
theorem rT_ge {qs : List Queue} : 0 ≤ rT qs := by
  unfold rT
  induction qs with
  | nil => simp
  | cons q r ih => simp; have := rq_nn q.2; omega
theorem rT_mem {qs : List Queue} {c : Nat} {q : Queue} (h : qs[c]? = some q) : rq q.2 ≤ rT qs := by
  have h1 := rT_set (q' := (0, [])) h
  have h2 := rT_ge (qs := qs.set c (0, []))
  have : rq ((0, []) : Queue).2 = 0 := rfl
  omega
theorem qsOk_set {qs : List Queue} (h : qsOk qs) {c : Nat} {q : Queue} (hq : queueOk q) (hc : ∀ x ∈ q.2, x.1.2.2.1 = (c : Int)) : qsOk (qs.set c q) := by
  refine ⟨by simp [h.n8], fun i q' hi => ?_⟩
  rw [List.getElem?_set] at hi
  split at hi
  · rename_i he
    subst he
    split at hi
    · cases hi; exact ⟨hq, hc⟩
    · cases hi
  · exact h.qs i q' hi
theorem partOk.l84 {x : Part} (h : partOk x) : 84 ≤ x.2.1 ∧ x.2.1 ≤ 1542 ∧ x.2.1 ≤ x.1.2.2.2.1 := by
  have := h.it.z0; have := h.it.z1
  rcases h.sh with ⟨h1, _⟩ | ⟨_, _, h1, h2⟩ <;> omega
/-- What choosing makes of a port. -/
inductive Chosen (p : Port) (t : Int) : Port → Prop
  | none (h : p.2.2.2.1 = false → ∀ c, c < 8 → ¬ MayS p.1 (p.2.2.1.map hd) c t) : Chosen p t (p.1, t, p.2.2)
  | start (c : Nat) (q : Queue) (x : Part) (r : List Part) (hb : p.2.2.2.1 = false) (hc : c < 8) (hq : p.2.2.1[c]? = some q) (hx : q.2 = x :: r) (hm : MayS p.1 (p.2.2.1.map hd) c t) : Chosen p t (startP (p.1, t, p.2.2) c q.1 x r t)
  | cut (k : Int) (hb : p.2.2.2.1 = true) (hp : pre p = true) (hr : p.2.2.2.2.2.2.2 = 0) (k1 : 64 ≤ k) (k2 : 64 ≤ p.2.2.2.2.1.2.1 - k) (k3 : t - p.2.2.2.2.2.1 ≤ k * p.1.2.1) :
      Chosen p t (p.1, t, p.2.2.1, true, p.2.2.2.2.1, p.2.2.2.2.2.1, p.2.2.2.2.2.1 + (k + 24) * p.1.2.1, p.2.2.2.2.1.2.1 - k + 24)
theorem K41_s {p : Port} (h : portOk p) {t : Int} (t0 : p.2.1 ≤ t) (t1 : t ≤ 549755813888) (tb : p.2.2.2.1 = true → t ≤ p.2.2.2.2.2.2.1) : ∃ p', K41 (p, t, ()) = some (p', ()) ∧ Chosen p t p' := by
  have n0 := h.n0
  have hh := (heads_ok h.q h.r1).1
  have h52 := K52_s (p := (p.1, t, p.2.2)) h.q
  simp only at h52
  rw [K41_eq]; unfold R41
  cases hb : p.2.2.2.1 with
  | false =>
    simp only [Bool.not_false, cond_true, h52, opt_s]
    rcases K58_s h.l hh (t := t) (by omega) t1 with ⟨c, k1, k2, k3, k4⟩ | ⟨k1, k2⟩
    · obtain ⟨x, hx, hp, hcl, hf⟩ := k3.full
      rw [List.getElem?_map, Option.map_eq_some_iff] at hx
      obtain ⟨q, hq, hqx⟩ := hx
      obtain ⟨y, r, hyr⟩ : ∃ y r, q.2 = y :: r := by
        cases hq2 : q.2 with
        | nil =>
          unfold hd at hqx; rw [hq2] at hqx
          have := isZ_ok hp
          rw [← hqx] at this
          cases this
        | cons y r => exact ⟨y, r, rfl⟩
      have h59 := K59_s (p := (p.1, t, p.2.2)) h.l h.q hq hyr (t := t) (by omega) (by omega)
      rw [k1]
      simp only [opt_s, show ieqF (0 : Int) 0 = true from rfl, Bool.not_true, cond_false, h59]
      exact ⟨_, rfl, .start c q y r hb k2 hq hyr k3⟩
    · rw [k1]
      simp only [opt_s, show ieqF (4 : Int) 0 = false from rfl, Bool.not_false, cond_true]
      exact ⟨_, rfl, .none fun _ => k2⟩
  | true =>
    have hs : sends p := by
      rcases h.s with hi | hs
      · rw [hi.b] at hb; cases hb
      · exact hs
    have hpre : pre (p.1, t, p.2.2) = pre p := rfl
    simp only [Bool.not_true, cond_false, K48_s, opt_s, hpre]
    cases hp : pre p with
    | false =>
      simp only [cond_false, opt_s]
      exact ⟨_, rfl, .none fun hbf => by rw [hb] at hbf; cases hbf⟩
    | true =>
      simp only [cond_true, ieqF_eq]
      by_cases hr : p.2.2.2.2.2.2.2 = 0
      · rw [show (p.2.2.2.2.2.2.2 == 0) = true by rw [hr]; rfl]
        have hend : p.2.2.2.2.2.2.1 = p.2.2.2.2.2.1 + p.2.2.2.2.1.2.1 * p.1.2.1 := by
          rcases hs.r with ⟨_, h2⟩ | ⟨_, h2, _⟩
          · exact h2
          · omega
        have hl := hs.s.l84
        simp only [cond_true, h52, opt_s]
        rcases K60_s h.l hh (o := p.2.2.2.2.1.2.1) (b := p.2.2.2.2.2.1) (t := t) hl.1 hl.2.1 hs.g0 (by have := hs.g1; omega) (by have := tb hb; omega) t1 with ⟨k, k1, k2, k3, k4⟩ | k1
        · rw [k1]
          simp only [opt_s, show ((0 : Int) == 0) = true from rfl, cond_true]
          exact ⟨_, rfl, .cut k hb hp hr k2 k3 k4⟩
        · rw [k1]
          simp only [opt_s, show ((4 : Int) == 0) = false from rfl, cond_false]
          exact ⟨_, rfl, .none fun hbf => by rw [hb] at hbf; cases hbf⟩
      · rw [show (p.2.2.2.2.2.2.2 == 0) = false by rw [beq_eq_false_iff_ne]; exact hr]
        simp only [cond_false, opt_s]
        exact ⟨_, rfl, .none fun hbf => by rw [hb] at hbf; cases hbf⟩
theorem queueOk_tail {q : Queue} (h : queueOk q) {x : Part} {r : List Part} (hx : q.2 = x :: r) : queueOk (q.1, r) ∧ rq r = 0 := by
  have hr : ∀ y ∈ r, y.2.2 = false := fun y hy => by
    obtain ⟨i, hi⟩ := List.getElem?_of_mem hy
    cases hb : y.2.2 with
    | false => rfl
    | true =>
      have := h.rs (i + 1) y (by rw [hx]; simpa using hi) hb
      omega
  have hn := h.n1
  have hf := h.fr
  rw [hx] at hn hf
  unfold frS at hf
  rw [List.map_cons, List.sum_cons] at hf
  have hb := fr1_bd (h.ps x (by rw [hx]; simp))
  refine ⟨⟨h.c0, h.c1, by simp at hn ⊢; omega, fun y hy => h.ps y (by rw [hx]; simp [hy]), fun i y hi hb => ?_, by unfold frS; simp only; omega⟩, ?_⟩
  · rw [hr y (List.mem_of_getElem? hi)] at hb; cases hb
  · have h0 : ∀ l : List Part, (∀ y ∈ l, y.2.2 = false) → rq l = 0 := fun l => by
      induction l with
      | nil => intro _; rfl
      | cons a l ih =>
        intro h
        have := ih (fun y hy => h y (by simp [hy]))
        unfold rq at this ⊢
        rw [List.map_cons, List.sum_cons, this]
        unfold r1; rw [h a (by simp)]; rfl
    exact h0 r hr
theorem Chosen.ok {p p' : Port} {t : Int} (hc : Chosen p t p') (h : portOk p) (t0 : p.2.1 ≤ t) (t1 : t ≤ 549755813888) (tb : p.2.2.2.1 = true → t ≤ p.2.2.2.2.2.2.1) : portOk p' := by
  have n0 := h.n0
  have l1 := h.l.p0; have l2 := h.l.p1
  cases hc with
  | none hno =>
    refine ⟨h.l, by show 0 ≤ t; omega, t1, h.q, h.r1, h.rp, ?_⟩
    rcases h.s with hi | hs
    · exact .inl ⟨hi.b, hi.s, hi.g, hi.e, hi.r⟩
    · exact .inr ⟨hs.b, hs.s, hs.g0, by have := hs.g1; show p.2.2.2.2.2.1 ≤ t; omega, tb hs.b, hs.r⟩
  | start c q x r hb hc hq hx hm =>
    obtain ⟨hqo, hcl⟩ := h.q.qs c q hq
    obtain ⟨hqt, hr0⟩ := queueOk_tail hqo hx
    have hp := hqo.ps x (by rw [hx]; simp)
    have hcx := hcl x (by rw [hx]; simp)
    have hrt : rT (p.2.2.1.set c (q.1, r)) = rT p.2.2.1 - rq q.2 + 0 := by rw [rT_set hq]; simp only [hr0]
    have hqn := rq_nn q.2
    have hr1 := h.r1
    have hl := hp.l84
    have hm0 := mul_bd (a := x.2.1) (b := p.1.2.1) (by omega) (by omega) l1 l2
    refine ⟨h.l, by show 0 ≤ t; omega, t1, qsOk_set h.q hqt (fun y hy => hcl y (by rw [hx]; simp [hy])), by show rT (p.2.2.1.set c (q.1, r)) ≤ 1; omega, fun hpre => ?_, .inr ⟨rfl, hp, by show 0 ≤ t; omega, Int.le_refl _, by show t ≤ t + x.2.1 * p.1.2.1; omega, .inl ⟨rfl, rfl⟩⟩⟩
    show rT (p.2.2.1.set c (q.1, r)) = 0
    have hc6 : (c : Int) < 6 := by
      unfold pre startP at hpre
      simp only [Bool.true_and, decide_eq_true_eq] at hpre
      omega
    rcases hm.free with h6 | hf
    · omega
    · -- the others have no rests
      have hall : rT p.2.2.1 = rq q.2 := by
        have h1 := rT_set (q' := (0, [])) hq
        have h2 : rT (p.2.2.1.set c (0, [])) = 0 := by
          have hz : ∀ l : List Queue, (∀ z ∈ l, rq z.2 = 0) → rT l = 0 := fun l => by
            induction l with
            | nil => intro _; rfl
            | cons a l ih =>
              intro h
              have := ih (fun y hy => h y (by simp [hy]))
              unfold rT at this ⊢
              rw [List.map_cons, List.sum_cons, this, h a (by simp)]; rfl
          refine hz _ fun z hz => ?_
          obtain ⟨j, hj⟩ := List.getElem?_of_mem hz
          rw [List.getElem?_set] at hj
          split at hj
          · split at hj
            · cases hj; rfl
            · cases hj
          · rename_i hne
            have h3 := hf j (hd z) (by rw [List.getElem?_map, hj]; rfl) (fun e => hne e.symm)
            rw [rq_hd (h.q.qs j z hj).1]
            unfold r1; rw [h3]; rfl
        have : rq ((0, []) : Queue).2 = 0 := rfl
        omega
      omega
  | cut k hb hp hr k1 k2 k3 =>
    have hs : sends p := by
      rcases h.s with hi | hs
      · rw [hi.b] at hb; cases hb
      · exact hs
    have hl := hs.s.l84
    have hcl : p.2.2.2.2.1.1.2.2.1 < 6 := by
      unfold pre at hp
      simp only [Bool.and_eq_true, decide_eq_true_eq] at hp
      exact hp.2
    have hk : k * p.1.2.1 ≤ (k + 24) * p.1.2.1 := Int.mul_le_mul_of_nonneg_right (by omega) (by omega)
    refine ⟨h.l, by show 0 ≤ t; omega, t1, h.q, h.r1, fun _ => h.rp hp, .inr ⟨rfl, hs.s, hs.g0, by have := hs.g1; show p.2.2.2.2.2.1 ≤ t; omega, ?_, .inr ⟨hcl, ?_, ?_, ?_⟩⟩⟩
    · show t ≤ p.2.2.2.2.2.1 + (k + 24) * p.1.2.1
      omega
    · show 88 ≤ p.2.2.2.2.1.2.1 - k + 24
      omega
    · show p.2.2.2.2.1.2.1 - k + 24 ≤ p.2.2.2.2.1.2.1 - 40
      omega
    · show p.2.2.2.2.2.1 + (k + 24) * p.1.2.1 = p.2.2.2.2.2.1 + (p.2.2.2.2.1.2.1 - (p.2.2.2.2.1.2.1 - k + 24) + 48) * p.1.2.1
      have : p.2.2.2.2.1.2.1 - (p.2.2.2.2.1.2.1 - k + 24) + 48 = k + 24 := by omega
      rw [this]
theorem K37_s {p : Port} {t : Int} (t0 : p.2.1 ≤ t) (t1 : t ≤ 549755813888) (tb : p.2.2.2.1 = true → t ≤ p.2.2.2.2.2.2.1) : K37 (p, t, ()) = some (true, ()) := by
  rw [K37_eq]; unfold R37
  rw [show iltF t p.2.1 = false by rw [iltF_eq]; exact decide_eq_false (by omega), show iltF 549755813888 t = false by rw [iltF_eq]; exact decide_eq_false (by omega)]
  cases hb : p.2.2.2.1 with
  | false => rfl
  | true =>
    rw [show iltF p.2.2.2.2.2.2.1 t = false by rw [iltF_eq]; exact decide_eq_false (by have := tb hb; omega)]
    rfl
theorem K21_s {p : Port} (h : portOk p) {t : Int} (t0 : p.2.1 ≤ t) (t1 : t ≤ 549755813888) (tb : p.2.2.2.1 = true → t ≤ p.2.2.2.2.2.2.1) : ∃ p', K21 (p, t, ()) = some (p', 0, ()) ∧ Chosen p t p' := by
  obtain ⟨p', h1, h2⟩ := K41_s h t0 t1 tb
  refine ⟨p', ?_, h2⟩
  rw [K21_eq]; unfold R21
  simp only [K12_s h, K37_s t0 t1 tb, h1, opt_s, show ieqF (0 : Int) 0 = true from rfl, Bool.not_true, cond_false]
/-- Arrivals. -/
def arrP (p : Port) (c : Nat) (q : Queue) (x : Item) (t : Int) : Port := (p.1, t, p.2.2.1.set c (q.1, q.2 ++ [(x, x.2.2.2.1, false)]), p.2.2.2)
theorem K20_s {p : Port} (h : portOk p) {t : Int} (t0 : p.2.1 ≤ t) (t1 : t ≤ 549755813888) (tb : p.2.2.2.1 = true → t ≤ p.2.2.2.2.2.2.1) {x : Item} (hx : itemOk x) {c : Nat} {q : Queue} (hc : x.2.2.1 = (c : Int)) (hq : p.2.2.1[c]? = some q) (ho : ocS q.2 + x.2.2.2.1 ≤ q.1) :
    K20 (p, t, x, ()) = some (arrP p c q x t, true, 0, ()) := by
  obtain ⟨h1, h2⟩ := h.q.qs c q hq
  have h40 : K40 (p, t, x, ()) = some (arrP p c q x t, true, ()) := by
    rw [K40_eq]; unfold R40
    simp only [mkOk_8 h.q.n8, cond_true, Int.toNat_natCast, copyL_full, hc, atI_get hq, gl_eq, hq, opt_s, K57_s h1 hx ho, show ieqF (0 : Int) 0 = true from rfl, Bool.not_true, cond_false, show (Nat.beq 0 0) = true from rfl]
    rfl
  rw [K20_eq]; unfold R20
  simp only [K12_s h, K37_s t0 t1 tb, K39_s hx, h40, opt_s, show ieqF (0 : Int) 0 = true from rfl, Bool.not_true, cond_false]
theorem frS_le {l : List Part} (h : ∀ x ∈ l, partOk x) : frS l ≤ ocS l := by
  induction l with
  | nil => exact Int.le_refl _
  | cons a l ih =>
    have := ih (fun x hx => h x (by simp [hx]))
    have h2 := (h a (by simp)).left
    unfold frS ocS at this ⊢
    simp only [List.map_cons, List.sum_cons]
    have : fr1 a ≤ a.2.1 := by unfold fr1; split <;> omega
    omega
theorem arr_ok {p : Port} (h : portOk p) {t : Int} (t0 : p.2.1 ≤ t) (t1 : t ≤ 549755813888) (tb : p.2.2.2.1 = true → t ≤ p.2.2.2.2.2.2.1) {x : Item} (hx : itemOk x) {c : Nat} {q : Queue} (hc : x.2.2.1 = (c : Int)) (hq : p.2.2.1[c]? = some q) (ho : ocS q.2 + x.2.2.2.1 ≤ q.1) (hn : q.2.length < 1000) : portOk (arrP p c q x t) := by
  obtain ⟨h1, h2⟩ := h.q.qs c q hq
  have n0 := h.n0
  have hnew : partOk (x, x.2.2.2.1, false) := ⟨hx, .inl ⟨rfl, rfl⟩⟩
  have hq' : queueOk (q.1, q.2 ++ [(x, x.2.2.2.1, false)]) := by
    refine ⟨h1.c0, h1.c1, by simp; omega, fun y hy => ?_, fun i y hi hb => ?_, ?_⟩
    · rcases List.mem_append.1 hy with hy | hy
      · exact h1.ps y hy
      · simp at hy; subst hy; exact hnew
    · by_cases hl : i < q.2.length
      · rw [List.getElem?_append_left hl] at hi; exact h1.rs i y hi hb
      · rw [List.getElem?_append_right (by omega)] at hi
        have := List.mem_of_getElem? hi
        simp at this; subst this; cases hb
    · have := frS_le h1.ps
      unfold frS at this ⊢
      simp only [List.map_append, List.sum_append, List.map_cons, List.sum_cons, List.map_nil, List.sum_nil]
      show _ + (fr1 (x, x.2.2.2.1, false) + 0) ≤ q.1
      have hf : fr1 (x, x.2.2.2.1, false) = x.2.2.2.1 := rfl
      omega
  have hr : rq (q.2 ++ [(x, x.2.2.2.1, false)]) = rq q.2 := by
    unfold rq; simp [r1]
  have hT : rT (p.2.2.1.set c (q.1, q.2 ++ [(x, x.2.2.2.1, false)])) = rT p.2.2.1 := by
    rw [rT_set hq]; simp only [hr]; omega
  refine ⟨h.l, by show 0 ≤ t; omega, t1, qsOk_set h.q hq' (fun y hy => ?_), by show rT (p.2.2.1.set c _) ≤ 1; rw [hT]; exact h.r1, fun hp => by show rT (p.2.2.1.set c _) = 0; rw [hT]; exact h.rp hp, ?_⟩
  · rcases List.mem_append.1 hy with hy | hy
    · exact h2 y hy
    · simp at hy; subst hy; exact hc
  · rcases h.s with hi | hs
    · exact .inl ⟨hi.b, hi.s, hi.g, hi.e, hi.r⟩
    · exact .inr ⟨hs.b, hs.s, hs.g0, by have := hs.g1; show p.2.2.2.2.2.1 ≤ t; omega, tb hs.b, hs.r⟩
/-- The end of a transmission. -/
def doneP (p : Port) (t : Int) : Port := (p.1, t, p.2.2.1, false, zP, 0, 0, 0)
def backP (p : Port) (c : Nat) (q : Queue) (t : Int) : Port := (p.1, t, p.2.2.1.set c (q.1, (p.2.2.2.2.1.1, p.2.2.2.2.2.2.2, true) :: q.2), false, zP, 0, 0, 0)
theorem back_q {p : Port} (h : portOk p) (hs : sends p) (hr : p.2.2.2.2.2.2.2 ≠ 0) : ∃ (c : Nat) (q : Queue), p.2.2.2.2.1.1.2.2.1 = (c : Int) ∧ c < 6 ∧ p.2.2.1[c]? = some q ∧ rT p.2.2.1 = 0 ∧ partOk (p.2.2.2.2.1.1, p.2.2.2.2.2.2.2, true) ∧ (∀ y, q.2[0]? = some y → y.2.2 = false) := by
  have hl := hs.s.l84
  rcases hs.r with ⟨h1, _⟩ | ⟨h1, h2, h3, h4⟩
  · exact absurd h1 hr
  · have hc0 := hs.s.it.c0
    obtain ⟨c, hc⟩ := Int.eq_ofNat_of_zero_le hc0
    have hc6 : c < 6 := by omega
    have hq : p.2.2.1[c]? = some (p.2.2.1[c]'(by have := h.q.n8; omega)) := List.getElem?_eq_getElem _
    have hpre : pre p = true := by unfold pre; rw [hs.b]; simp [h1]
    have hT := h.rp hpre
    refine ⟨c, _, hc, hc6, hq, hT, ⟨hs.s.it, .inr ⟨rfl, by show p.2.2.2.2.1.1.2.2.1 ≤ 5; omega, h2, ?_⟩⟩, fun y hy => ?_⟩
    · show p.2.2.2.2.2.2.2 ≤ p.2.2.2.2.1.1.2.2.2.1 - 40
      omega
    · have hm := rT_mem hq
      have hn := rq_nn (p.2.2.1[c]'(by have := h.q.n8; omega)).2
      rw [rq_hd (h.q.qs c _ hq).1] at hm hn
      have hz : r1 (hd (p.2.2.1[c]'(by have := h.q.n8; omega))) = 0 := by omega
      unfold hd at hz
      cases hq2 : (p.2.2.1[c]'(by have := h.q.n8; omega)).2 with
      | nil => rw [hq2] at hy; cases hy
      | cons a l =>
        rw [hq2] at hy hz
        simp at hy hz
        subst hy
        unfold r1 at hz
        cases hb : a.2.2 with
        | false => rfl
        | true => rw [hb] at hz; simp at hz
theorem K19_s {p : Port} (h : portOk p) (hs : sends p) {t : Int} (ht : t = p.2.2.2.2.2.2.1) (t1 : t ≤ 549755813888) :
    (p.2.2.2.2.2.2.2 = 0 ∧ K19 (p, t, ()) = some (doneP p t, p.2.2.2.2.1.1, true, 0, ())) ∨
    (p.2.2.2.2.2.2.2 ≠ 0 ∧ ∃ (c : Nat) (q : Queue), p.2.2.2.2.1.1.2.2.1 = (c : Int) ∧ p.2.2.1[c]? = some q ∧ K19 (p, t, ()) = some (backP p c q t, zI, false, 0, ())) := by
  have e := hs.e
  have k37 := K37_s (p := p) (t := t) (by omega) t1 (fun _ => by omega)
  by_cases hr : p.2.2.2.2.2.2.2 = 0
  · left
    refine ⟨hr, ?_⟩
    have h38 : K38 (p, t, ()) = some (doneP p t, p.2.2.2.2.1.1, true, ()) := by
      rw [K38_eq]; unfold R38
      rw [show ieqF p.2.2.2.2.2.2.2 0 = true by rw [hr]; rfl]
      rfl
    rw [K19_eq]; unfold R19
    simp only [K12_s h, opt_s, show ieqF (0 : Int) 0 = true from rfl, Bool.not_true, cond_false, hs.b, show ieqF t p.2.2.2.2.2.2.1 = true by rw [ieqF_eq, ht]; simp, k37, show (Nat.beq 0 0) = true from rfl, cond_true, h38]
  · right
    obtain ⟨c, q, hc, hc6, hq, hT, hp, h0⟩ := back_q h hs hr
    refine ⟨hr, c, q, hc, hq, ?_⟩
    have h38 : K38 (p, t, ()) = some (backP p c q t, zI, false, ()) := by
      rw [K38_eq]; unfold R38
      rw [show ieqF p.2.2.2.2.2.2.2 0 = false by rw [ieqF_eq, beq_eq_false_iff_ne]; exact hr]
      simp only [cond_false, mkOk_8 h.q.n8, cond_true, Int.toNat_natCast, copyL_full, hc, atI_get hq, gl_eq, hq, opt_s, K55_s (h.q.qs c q hq).1 hp rfl h0, show ieqF (0 : Int) 0 = true from rfl, Bool.not_true]
      rfl
    rw [K19_eq]; unfold R19
    simp only [K12_s h, opt_s, show ieqF (0 : Int) 0 = true from rfl, Bool.not_true, cond_false, hs.b, show ieqF t p.2.2.2.2.2.2.1 = true by rw [ieqF_eq, ht]; simp, k37, show (Nat.beq 0 0) = true from rfl, cond_true, h38]
theorem done_ok {p : Port} (h : portOk p) {t : Int} (t0 : 0 ≤ t) (t1 : t ≤ 549755813888) : portOk (doneP p t) :=
  ⟨h.l, t0, t1, h.q, h.r1, (fun hp => by cases hp), .inl ⟨rfl, rfl, rfl, rfl, rfl⟩⟩
theorem back_ok {p : Port} (h : portOk p) (hs : sends p) (hr : p.2.2.2.2.2.2.2 ≠ 0) {c : Nat} {q : Queue} (hc : p.2.2.2.2.1.1.2.2.1 = (c : Int)) (hq : p.2.2.1[c]? = some q) (hn : q.2.length < 1000) {t : Int} (t0 : 0 ≤ t) (t1 : t ≤ 549755813888) : portOk (backP p c q t) := by
  obtain ⟨c', q', hc', hc6, hq', hT, hp, h0⟩ := back_q h hs hr
  have : c' = c := by omega
  subst this
  rw [hq] at hq'; cases hq'
  obtain ⟨h1, h2⟩ := h.q.qs c' q hq
  have hqn : queueOk (q.1, (p.2.2.2.2.1.1, p.2.2.2.2.2.2.2, true) :: q.2) := by
    refine ⟨h1.c0, h1.c1, by simp; omega, fun y hy => ?_, fun i y hi hb => ?_, ?_⟩
    · rcases List.mem_cons.1 hy with rfl | hy
      · exact hp
      · exact h1.ps y hy
    · cases i with
      | zero => rfl
      | succ i =>
        have hi : q.2[i]? = some y := by simpa using hi
        have := h1.rs i y hi hb
        subst this
        rw [h0 y hi] at hb; cases hb
    · have := h1.fr
      unfold frS at this ⊢
      simp only [List.map_cons, List.sum_cons]
      have : fr1 (p.2.2.2.2.1.1, p.2.2.2.2.2.2.2, true) = 0 := rfl
      omega
  have hrt : rT (p.2.2.1.set c' (q.1, (p.2.2.2.2.1.1, p.2.2.2.2.2.2.2, true) :: q.2)) = 1 := by
    rw [rT_set hq]
    have : rq ((p.2.2.2.2.1.1, p.2.2.2.2.2.2.2, true) :: q.2) = 1 + rq q.2 := by
      unfold rq; rw [List.map_cons, List.sum_cons]; rfl
    simp only [this]; omega
  refine ⟨h.l, t0, t1, qsOk_set h.q hqn (fun y hy => ?_), by show rT (p.2.2.1.set c' _) ≤ 1; omega, (fun hp => by cases hp), .inl ⟨rfl, rfl, rfl, rfl, rfl⟩⟩
  rcases List.mem_cons.1 hy with rfl | hy
  · exact hc
  · exact h2 y hy
theorem K18_s {p : Port} (h : portOk p) : (∃ a, K18 (p, ()) = some (a, 0, ()) ∧ p.2.1 ≤ a ∧ (p.2.2.2.1 = true → a = p.2.2.2.2.2.2.1) ∧ (p.2.2.2.1 = false → a ≤ p.2.1 + 20000000)) ∨ (K18 (p, ()) = some (0, 4, ()) ∧ p.2.2.2.1 = false) := by
  have hh := (heads_ok h.q h.r1).1
  rw [K18_eq]; unfold R18
  simp only [K12_s h, opt_s, show ieqF (0 : Int) 0 = true from rfl, Bool.not_true, cond_false]
  rw [K36_eq]; unfold R36
  cases hb : p.2.2.2.1 with
  | true =>
    have hs : sends p := by
      rcases h.s with hi | hs
      · rw [hi.b] at hb; cases hb
      · exact hs
    left
    exact ⟨_, rfl, hs.e, fun _ => rfl, fun hf => by cases hf⟩
  | false =>
    simp only [cond_false, K52_s h.q, opt_s]
    rcases K51_s h.l hh h.n0 h.n1 with ⟨a, k1, k2, k3, k4⟩ | ⟨k1, k2⟩
    · left
      rw [k1]
      exact ⟨a, rfl, k2, fun hf => (Bool.noConfusion hf), fun _ => k3⟩
    · right
      rw [k1]
      exact ⟨rfl, by simp⟩
end Go.Proofs.Ytfpbgiaiifcnlaa.pg
/- New ports, drawn frames. -/
namespace Go.Proofs.Ytfpbgiaiifcnlaa.pg
open Go Go.Fz Go.Fz.Sy
set_option linter.unusedVariables false
set_option linter.unusedSimpArgs false
abbrev Come := Int × Item
abbrev Frame := Int × Int × Int
theorem K26_s {c : Int} (h0 : 0 ≤ c) (h1 : c ≤ 65536) : K26 (c, ()) = some ((c, []), 0, ()) := by
  rw [K26_eq]; unfold R26
  simp only [K44_s, opt_s, h0, h1, decide_true, Bool.and_self, Bool.not_true, cond_false]
def newP (l : Line) : Port := (l, 0, List.replicate 8 (65536, []), false, zP, 0, 0, 0)
theorem K15_s : K15 (65536, ()) = some (List.replicate 8 65536, ()) := by rw [K15_eq]; rfl
theorem K8_s {l : Line} (h : lineOk l) : K8 (l, List.replicate 8 65536, ()) = some (newP l, 0, ()) := by
  rw [K8_eq]; unfold R8
  simp only [K25_s h, opt_s, show ieqF (0 : Int) 0 = true from rfl, Bool.not_true, cond_false, List.length_replicate, show ieqF ((8 : Nat) : Int) 8 = true from rfl, show mkOk 0 8 32 = true from rfl, cond_true, show Int.toNat 0 = 0 from rfl, List.replicate_zero]
  rw [iter_steps (st := fun i => ((((([], 0), 0, 0), 0, [], false, ((0, 0, 0, 0, 0), 0, false), 0, 0, 0), 0, (i : Int), ()), (List.replicate i ((65536 : Int), ([] : List Part)), ()))) (n := 8) (x := (0, ((((([], 0), 0, 0), 0, [], false, ((0, 0, 0, 0, 0), 0, false), 0, 0, 0), 0, ((8 : Nat) : Int), ()), (List.replicate 8 ((65536 : Int), ([] : List Part)), ())))) ?_ ?_ ?_ (by omega)]
  · rfl
  · rfl
  · intro i hi
    have hx : (List.replicate 8 (65536 : Int))[i]? = some 65536 := by rw [List.getElem?_replicate]; simp [hi]
    have hlt : iltF (i : Int) ((8 : Nat) : Int) = true := by rw [iltF_eq]; exact decide_eq_true (by omega)
    have e4 : wrF .i64 ((i : Int) + 1) = ((i + 1 : Nat) : Int) := by rw [wr64] <;> omega
    simp only [hlt, cond_true, atI_get hx, opt_s, K26_s (c := 65536) (by omega) (by omega), show ieqF (0 : Int) 0 = true from rfl, Bool.not_true, cond_false, e4, List.length_replicate, List.length_cons, List.length_nil]
    rw [appOk_s (by omega) (by omega)]
    simp only [cond_true]
    rw [List.replicate_succ']
  · rfl
theorem newP_ok {l : Line} (h : lineOk l) : portOk (newP l) := by
  have hq : ∀ (i : Nat) q, (List.replicate 8 ((65536 : Int), ([] : List Part)))[i]? = some q → q = (65536, []) := fun i q hi => by
    have := List.mem_of_getElem? hi
    simpa using this
  refine ⟨h, Int.le_refl 0, by show (0 : Int) ≤ 549755813888; omega, ⟨rfl, fun i q hi => ?_⟩, by show rT (List.replicate 8 (65536, [])) ≤ 1; decide, fun hp => (by show rT (List.replicate 8 (65536, [])) = 0; decide), .inl ⟨rfl, rfl, rfl, rfl, rfl⟩⟩
  have := hq i q hi
  subst this
  exact ⟨⟨by decide, by decide, by decide, fun x hx => (by cases hx), fun i x hx => (by simp at hx), by decide⟩, fun x hx => (by cases hx)⟩
/-! ### Frames -/
structure frOk (x : Frame) : Prop where
  w0 : 0 ≤ x.1
  w1 : x.1 ≤ 65535
  c0 : 0 ≤ x.2.1
  c1 : x.2.1 ≤ 255
  z0 : 0 ≤ x.2.2
  z1 : x.2.2 ≤ 65535
/-- Frames that come, in order. -/
structure comesOk (l : List Come) (i0 : Nat) (lo hi : Int) : Prop where
  it : ∀ (j : Nat) c, l[j]? = some c → itemOk c.2 ∧ c.2.2.1 = ((i0 + j : Nat) : Int)
  lo : ∀ c ∈ l, lo ≤ c.1
  hi : ∀ c ∈ l, c.1 ≤ hi
  so : l.Pairwise fun a b => a.1 ≤ b.1
theorem minI_nat (a b : Nat) : minI (a : Int) (b : Int) = ((min a b : Nat) : Int) := by
  unfold minI
  rw [iltF_eq]
  by_cases h : (b : Int) < (a : Int)
  · rw [decide_eq_true h, cond_true]; congr 1; omega
  · rw [decide_eq_false h, cond_false]; congr 1; omega
theorem cut_min {α : Type} (l : List α) (n : Nat) : cutI l none (some (minI ((l.length : Nat) : Int) (n : Int))) none = some (l.take n) := by
  rw [minI_nat, cutI_to _ _ (Nat.min_le_left _ _)]
  congr 1
  rw [List.take_eq_take_iff]; omega
def frItem (x : Frame) (i : Nat) : Item := (0, (i : Int), Int.tmod x.2.1 8, 84 + Int.tmod x.2.2 1459, 0)
theorem fr_item {x : Frame} (h : frOk x) {i : Nat} (hi : i ≤ 16) : itemOk (frItem x i) ∧ wrF .i64 (Int.tmod x.2.1 8) = Int.tmod x.2.1 8 ∧ wrF .i64 (84 + Int.tmod x.2.2 1459) = 84 + Int.tmod x.2.2 1459 := by
  have a1 : 0 ≤ Int.tmod x.2.1 8 := Int.tmod_nonneg _ h.c0
  have a2 : Int.tmod x.2.1 8 < 8 := Int.tmod_lt_of_pos _ (by omega)
  have b1 : 0 ≤ Int.tmod x.2.2 1459 := Int.tmod_nonneg _ h.z0
  have b2 : Int.tmod x.2.2 1459 < 1459 := Int.tmod_lt_of_pos _ (by omega)
  refine ⟨⟨?_, ?_, ?_, ?_, ?_, ?_, ?_, ?_, ?_, ?_⟩, wr64 (by omega) (by omega), wr64 (by omega) (by omega)⟩ <;> simp only [frItem] <;> omega
theorem comes_snoc {l : List Come} {at_ at2 : Int} {x : Item} (h : comesOk l 0 0 at_) (h0 : at_ ≤ at2) (hp : 0 ≤ at_) (hx : itemOk x) (hs : x.2.1 = ((l.length : Nat) : Int)) : comesOk (l ++ [(at2, x)]) 0 0 at2 := by
  refine ⟨fun j c hj => ?_, fun c hc => ?_, fun c hc => ?_, ?_⟩
  · by_cases hl : j < l.length
    · rw [List.getElem?_append_left hl] at hj; exact h.it j c hj
    · rw [List.getElem?_append_right (by omega)] at hj
      have hj0 := (List.getElem?_eq_some_iff.1 hj).1
      simp at hj0
      have : j - l.length = 0 := by omega
      rw [this] at hj
      simp at hj
      subst hj
      refine ⟨hx, ?_⟩
      rw [hs]; omega
  · rcases List.mem_append.1 hc with hc | hc
    · exact h.lo c hc
    · simp at hc; subst hc; show 0 ≤ at2; omega
  · rcases List.mem_append.1 hc with hc | hc
    · have := h.hi c hc; omega
    · simp at hc; subst hc; exact Int.le_refl _
  · rw [List.pairwise_append]
    refine ⟨h.so, List.pairwise_singleton _ _, fun a ha b hb => ?_⟩
    simp at hb; subst hb
    have := h.hi a ha; show a.1 ≤ at2; omega
theorem K13_s {l : List Frame} (h : ∀ x ∈ l, frOk x) : ∃ (cs : List Come) (last : Int), K13 (l, ()) = some (cs, last, ()) ∧ comesOk cs 0 0 last ∧ cs.length = min 16 l.length ∧ 0 ≤ last ∧ last ≤ 1048560 := by
  have key : Lands (K13 (l, ())) (fun r => comesOk r.1 0 0 r.2.1 ∧ r.1.length = min 16 l.length ∧ 0 ≤ r.2.1 ∧ r.2.1 ≤ 1048560) := by
    have htl : (l.take 16).length = min 16 l.length := List.length_take
    rw [K13_eq]; unfold R13
    refine ends_opt (ends_of (cut_min l 16) ?_)
    refine ends_opt' (J := fun x => comesOk x.2.2.1 0 0 x.2.1.1 ∧ x.2.2.1.length = min 16 l.length ∧ 0 ≤ x.2.1.1 ∧ x.2.1.1 ≤ 1048560) (ends_iter
      (fun s => ∃ (at_ : Int) (i : Nat) (z : List Come), s = ((at_, (i : Int), ()), (z, ())) ∧ comesOk z 0 0 at_ ∧ z.length = i ∧ i ≤ min 16 l.length ∧ 0 ≤ at_ ∧ at_ ≤ 65535 * i) _
      (fun s => 16 - s.1.2.1.toNat) ?_ ?_ ?_) ?_
    · exact ⟨0, 0, [], rfl, ⟨fun j c hj => (by simp at hj), fun c hc => (by cases hc), fun c hc => (by cases hc), List.Pairwise.nil⟩, rfl, Nat.zero_le _, by omega, by omega⟩
    · simp only; omega
    · rintro s ⟨at_, i, z, rfl, hc, hlen, hi, h0, h1⟩
      have step : ∀ (z : List Come), comesOk z 0 0 at_ → z.length = i → i < (l.take 16).length → ∃ x, (l.take 16)[i]? = some x ∧ wrF .i64 x.1 = x.1 ∧ wrF .i64 (at_ + x.1) = at_ + x.1 ∧ wrF .i64 x.2.2 = x.2.2 ∧ wrF .i64 (Int.tmod x.2.1 8) = Int.tmod x.2.1 8 ∧ wrF .i64 (84 + Int.tmod x.2.2 1459) = 84 + Int.tmod x.2.2 1459 ∧ wrF .i64 ((i : Int) + 1) = ((i + 1 : Nat) : Int) ∧ comesOk (z ++ [(at_ + x.1, frItem x i)]) 0 0 (at_ + x.1) ∧ 0 ≤ at_ + x.1 ∧ at_ + x.1 ≤ 65535 * ((i + 1 : Nat) : Int) := fun z hz hzl hil => by
        have hx : (l.take 16)[i]? = some ((l.take 16)[i]) := List.getElem?_eq_getElem hil
        have hf := h _ (List.mem_of_mem_take (List.getElem_mem hil))
        generalize (l.take 16)[i] = x at hx hf
        have hi16 : i ≤ 16 := by simp at hil; omega
        obtain ⟨q1, q2, q3⟩ := fr_item hf hi16
        have := hf.w0; have := hf.w1; have := hf.z0; have := hf.z1
        exact ⟨x, hx, wr64 (by omega) (by omega), wr64 (by omega) (by omega), wr64 (by omega) (by omega), q2, q3, wr64 (by omega) (by omega), comes_snoc hz (by omega) h0 q1 (by show (i : Int) = _; rw [hzl]), by omega, by push_cast; omega⟩
      refine ends_bif (fun hb => ?_) (fun hb => ?_)
      · have hlt0 : i < (l.take 16).length := by rw [iltF_eq] at hb; have := of_decide_eq_true hb; simp only at this; omega
        obtain ⟨x, hx, w1, w2, w3, w4, w5, w6, w7, w8, w9⟩ := step z hc hlen hlt0
        refine ends_opt (at_ends hx ?_)
        simp only [w1, w2, w3, w4, w5, w6, List.length_cons, List.length_nil]
        rw [appOk_s (by omega) (by omega)]
        refine ends_some (round_on ⟨_, i + 1, _, rfl, w7, by simp [hlen], by omega, w8, w9⟩ (by simp only [Int.toNat_natCast]; omega))
      · refine ends_some (round_out ?_)
        have : ¬ i < (l.take 16).length := by rw [iltF_eq] at hb; have := of_decide_eq_false hb; simp only at this; omega
        exact ⟨hc, by simp only; omega, h0, by simp only at h1 ⊢; omega⟩
    · rintro ⟨j, ⟨at_, y⟩, o, u⟩ ⟨h1, h2, h3, h4⟩
      exact ends_some ⟨h1, h2, h3, h4⟩
  obtain ⟨⟨cs, last, u⟩, e, q1, q2, q3, q4⟩ := key
  exact ⟨cs, last, e, q1, q2, q3, q4⟩
end Go.Proofs.Ytfpbgiaiifcnlaa.pg
/- PortGates, plain: a run of a port keeps what the law asks. -/
namespace Go.Proofs.Ytfpbgiaiifcnlaa.pg
open Go Go.Fz Go.Fz.Sy
set_option linter.unusedVariables false
set_option linter.unusedSimpArgs false
def nS (qs : List Queue) : Int := (qs.map fun q => (q.2.length : Int)).sum
theorem nS_set {qs : List Queue} {c : Nat} {q q' : Queue} (h : qs[c]? = some q) : nS (qs.set c q') = nS qs - q.2.length + q'.2.length := by
  unfold nS
  rw [List.map_set]
  exact sum_set (by simp [h])
theorem nS_ge {qs : List Queue} : 0 ≤ nS qs := by
  unfold nS
  induction qs with
  | nil => simp
  | cons q r ih => simp; omega
theorem nS_mem {qs : List Queue} {c : Nat} {q : Queue} (h : qs[c]? = some q) : (q.2.length : Int) ≤ nS qs := by
  have h1 := nS_set (q' := (0, [])) h
  have h2 := nS_ge (qs := qs.set c (0, []))
  have : (((0, []) : Queue).2.length : Int) = 0 := rfl
  omega
def bz (p : Port) : Int := if p.2.2.2.1 = true then 1 else 0
structure Inv (g : Gates) (sh last : Int) (p : Port) (cs : List Come) (tt : Int) : Prop where
  ok : portOk p
  ln : p.1 = (g, 1, sh)
  t0 : p.2.1 ≤ tt
  tb : p.2.2.2.1 = true → tt ≤ p.2.2.2.2.2.2.1
  lo : ∀ c ∈ cs, tt ≤ c.1
  hi : ∀ c ∈ cs, c.1 ≤ last
  so : cs.Pairwise fun a b => a.1 ≤ b.1
  it : ∀ c ∈ cs, itemOk c.2
  rm : nS p.2.2.1 + bz p + cs.length ≤ 16
  cp : ∀ q ∈ p.2.2.1, q.1 = 65536
  ft : p.2.2.2.1 = true → p.2.2.2.2.2.2.1 - p.2.2.2.2.2.1 ≤ openF g p.2.2.2.2.1.1.2.2.1 (p.2.2.2.2.2.1 + sh) ∧ p.2.2.2.2.2.2.1 ≤ p.2.2.2.2.2.1 + p.2.2.2.2.1.2.1
variable {g : Gates} {sh last : Int} {p : Port} {cs : List Come} {tt : Int}
theorem Inv.sends (h : Inv g sh last p cs tt) (hb : p.2.2.2.1 = true) : sends p := by
  rcases h.ok.s with hi | hs
  · rw [hi.b] at hb; cases hb
  · exact hs
theorem cp_set {qs : List Queue} (h : ∀ q ∈ qs, q.1 = 65536) {c : Nat} {q : Queue} (hq : q.1 = 65536) : ∀ z ∈ qs.set c q, z.1 = 65536 := fun z hz => by
  rcases List.mem_or_eq_of_mem_set hz with h1 | h1
  · exact h z h1
  · subst h1; exact hq
theorem Inv.end_ (h : Inv g sh last p cs tt) (hb : p.2.2.2.1 = true) (he : p.2.2.2.2.2.2.1 = tt) (t1 : tt ≤ 549755813888) : ∃ p' x d, K19 (p, tt, ()) = some (p', x, d, 0, ()) ∧ Inv g sh last p' cs tt := by
  have hs := h.sends hb
  have n0 := h.ok.n0
  have t0 := h.t0
  have hbz : bz p = 1 := by unfold bz; simp [hb]
  have hrm := h.rm
  rcases K19_s h.ok hs he.symm t1 with ⟨hr, hk⟩ | ⟨hr, c, q, hc, hq, hk⟩
  · refine ⟨_, _, _, hk, done_ok h.ok (by omega) t1, h.ln, Int.le_refl _, fun hf => (by cases hf), h.lo, h.hi, h.so, h.it, ?_, h.cp, fun hf => (by cases hf)⟩
    have : bz (doneP p tt) = 0 := rfl
    rw [this]
    show nS p.2.2.1 + 0 + cs.length ≤ 16
    omega
  · have hm := nS_mem hq
    have hcap := h.cp q (List.mem_of_getElem? hq)
    refine ⟨_, _, _, hk, back_ok h.ok hs hr hc hq (by omega) (by omega) t1, h.ln, Int.le_refl _, fun hf => (by cases hf), h.lo, h.hi, h.so, h.it, ?_, cp_set h.cp hcap, fun hf => (by cases hf)⟩
    have hz : bz (backP p c q tt) = 0 := rfl
    rw [hz]
    show nS (p.2.2.1.set c (q.1, (p.2.2.2.2.1.1, p.2.2.2.2.2.2.2, true) :: q.2)) + 0 + cs.length ≤ 16
    rw [nS_set hq]
    simp only [List.length_cons]
    push_cast
    omega
theorem Inv.arr {x : Come} (h : Inv g sh last p (x :: cs) tt) (hx : x.1 = tt) (t1 : tt ≤ 549755813888) : ∃ p', K20 (p, tt, x.2, ()) = some (p', true, 0, ()) ∧ Inv g sh last p' cs tt := by
  have hi := h.it x (by simp)
  have n0 := h.ok.n0
  have t0 := h.t0
  have hrm := h.rm
  have hbz : 0 ≤ bz p := by unfold bz; split <;> omega
  simp only [List.length_cons] at hrm
  obtain ⟨c, hc⟩ := Int.eq_ofNat_of_zero_le hi.c0
  have hc8 : c < 8 := by have := hi.c1; omega
  have hq : p.2.2.1[c]? = some (p.2.2.1[c]'(by have := h.ok.q.n8; omega)) := List.getElem?_eq_getElem _
  generalize p.2.2.1[c]'(by have := h.ok.q.n8; omega) = q at hq
  obtain ⟨q1, q2⟩ := h.ok.q.qs c q hq
  have hm := nS_mem hq
  have hcap := h.cp q (List.mem_of_getElem? hq)
  have ho : ocS q.2 + x.2.2.2.2.1 ≤ q.1 := by
    have h1 := sum_bd (l := q.2.map (·.2.1)) (M := 1542) (fun y hy => by
      obtain ⟨z, hz, rfl⟩ := List.mem_map.1 hy
      have := (q1.ps z hz).left; omega) q.2.length
    rw [List.take_of_length_le (by simp)] at h1
    simp only [List.length_map] at h1
    have := hi.z1
    unfold ocS
    omega
  have ha := arr_ok h.ok t0 t1 h.tb hi hc hq ho (by omega)
  refine ⟨_, K20_s h.ok t0 t1 h.tb hi hc hq ho, ha, h.ln, Int.le_refl _, h.tb, fun y hy => h.lo y (by simp [hy]), fun y hy => h.hi y (by simp [hy]), (List.pairwise_cons.1 h.so).2, fun y hy => h.it y (by simp [hy]), ?_, cp_set h.cp hcap, h.ft⟩
  have hz : bz (arrP p c q x.2 tt) = bz p := rfl
  rw [hz]
  show nS (p.2.2.1.set c (q.1, q.2 ++ [(x.2, x.2.2.2.2.1, false)])) + bz p + cs.length ≤ 16
  rw [nS_set hq]
  simp only [List.length_append, List.length_cons, List.length_nil]
  push_cast at hrm ⊢
  omega
theorem Inv.cho (h : Inv g sh last p cs tt) (t1 : tt ≤ 549755813888) : ∃ p', K21 (p, tt, ()) = some (p', 0, ()) ∧ Inv g sh last p' cs tt ∧ p'.2.1 = tt := by
  obtain ⟨p', hk, hc⟩ := K21_s h.ok h.t0 t1 h.tb
  have hok := hc.ok h.ok h.t0 t1 h.tb
  refine ⟨p', hk, ?_⟩
  have hrm := h.rm
  have tb' : p'.2.2.2.1 = true → p'.2.1 ≤ p'.2.2.2.2.2.2.1 := fun hb => by
    rcases hok.s with hi | hs
    · rw [hi.b] at hb; cases hb
    · exact hs.e
  cases hc with
  | none hno => exact ⟨⟨hok, h.ln, Int.le_refl _, tb', h.lo, h.hi, h.so, h.it, h.rm, h.cp, h.ft⟩, rfl⟩
  | start c q x r hb hcc hq hx hm =>
    have hcap := h.cp q (List.mem_of_getElem? hq)
    obtain ⟨q1, q2⟩ := h.ok.q.qs c q hq
    have hcl := q2 x (by rw [hx]; simp)
    refine ⟨⟨hok, h.ln, Int.le_refl _, tb', h.lo, h.hi, h.so, h.it, ?_, cp_set h.cp hcap, fun _ => ?_⟩, rfl⟩
    · have hz : bz (startP (p.1, tt, p.2.2) c q.1 x r tt) = 1 := rfl
      have hz0 : bz p = 0 := by unfold bz; simp [hb]
      rw [hz]
      show nS (p.2.2.1.set c (q.1, r)) + 1 + cs.length ≤ 16
      rw [nS_set hq]
      simp only [hx, List.length_cons]
      push_cast
      omega
    · obtain ⟨y, hy, p1, p2, p3⟩ := hm.full
      rw [List.getElem?_map, hq] at hy
      have hyx : y = x := by
        simp only [Option.map_some, Option.some.injEq] at hy
        unfold hd at hy; rw [hx] at hy; exact hy.symm
      subst hyx
      have hl := h.ln
      rw [hl] at p3
      simp only at p3
      show tt + y.2.1 * p.1.2.1 - tt ≤ openF g y.1.2.2.1 (tt + sh) ∧ tt + y.2.1 * p.1.2.1 ≤ tt + y.2.1
      rw [hl, hcl]
      simp only
      omega
  | cut k hb hp hr k1 k2 k3 =>
    have hs := h.sends hb
    have hl := h.ln
    refine ⟨⟨hok, h.ln, Int.le_refl _, tb', h.lo, h.hi, h.so, h.it, ?_, h.cp, fun _ => ?_⟩, rfl⟩
    · have hz : bz p = 1 := by unfold bz; simp [hb]
      rw [hz] at hrm
      exact hrm
    · obtain ⟨f1, f2⟩ := h.ft hb
      have hend : p.2.2.2.2.2.2.1 = p.2.2.2.2.2.1 + p.2.2.2.2.1.2.1 * p.1.2.1 := by
        rcases hs.r with ⟨_, h2⟩ | ⟨_, h2, _⟩
        · exact h2
        · omega
      show p.2.2.2.2.2.1 + (k + 24) * p.1.2.1 - p.2.2.2.2.2.1 ≤ openF g p.2.2.2.2.1.1.2.2.1 (p.2.2.2.2.2.1 + sh) ∧ p.2.2.2.2.2.1 + (k + 24) * p.1.2.1 ≤ p.2.2.2.2.2.1 + p.2.2.2.2.1.2.1
      have hper : p.1.2.1 = 1 := by rw [hl]
      rw [hper] at hend ⊢
      omega
/-! ### The law's gate list -/
def nrmE (x : Int × Int) : Int × Int := (bitI .and .i64 x.1 255, 1 + Int.tmod (wrF .u64 x.2) 5000)
theorem nrm_ok (x : Int × Int) : 0 ≤ (nrmE x).1 ∧ (nrmE x).1 ≤ 255 ∧ 1 ≤ (nrmE x).2 ∧ (nrmE x).2 ≤ 5000 ∧ wrF .i64 (Int.tmod (wrF .u64 x.2) 5000) = Int.tmod (wrF .u64 x.2) 5000 ∧ wrF .i64 (1 + Int.tmod (wrF .u64 x.2) 5000) = 1 + Int.tmod (wrF .u64 x.2) 5000 := by
  have hu : 0 ≤ wrF .u64 x.2 := by
    rw [wrF_eq]
    unfold IntKind.wrap
    show 0 ≤ (if (false && decide (x.2 % 18446744073709551616 ≥ 9223372036854775808)) = true then x.2 % 18446744073709551616 - 18446744073709551616 else x.2 % 18446744073709551616)
    simp only [Bool.false_and, Bool.false_eq_true, if_false]
    omega
  have a1 : 0 ≤ Int.tmod (wrF .u64 x.2) 5000 := Int.tmod_nonneg _ hu
  have a2 : Int.tmod (wrF .u64 x.2) 5000 < 5000 := Int.tmod_lt_of_pos _ (by omega)
  have hb : 0 ≤ bitI .and .i64 x.1 255 ∧ bitI .and .i64 x.1 255 ≤ 255 := by
    show 0 ≤ IntKind.i64.wrap ((BitVec.ofInt 64 x.1 &&& BitVec.ofInt 64 255).toNat : Int) ∧ IntKind.i64.wrap ((BitVec.ofInt 64 x.1 &&& BitVec.ofInt 64 255).toNat : Int) ≤ 255
    have h : (BitVec.ofInt 64 x.1 &&& BitVec.ofInt 64 255).toNat ≤ 255 := by
      rw [BitVec.toNat_and]
      exact Nat.and_le_right
    have := wr64 (z := ((BitVec.ofInt 64 x.1 &&& BitVec.ofInt 64 255).toNat : Int)) (by omega) (by omega)
    rw [wrF_eq] at this
    rw [this]
    omega
  exact ⟨hb.1, hb.2, by simp only [nrmE]; omega, by simp only [nrmE]; omega, wr64 (by omega) (by omega), wr64 (by omega) (by omega)⟩
end Go.Proofs.Ytfpbgiaiifcnlaa.pg
/- PortOrders, plain: open gates; the steps of an egress. -/
namespace Go.Proofs.Ytfpbgiaiifcnlaa.pg
open Go Go.Fz Go.Fz.Sy
set_option linter.unusedVariables false
set_option linter.unusedSimpArgs false
abbrev g0 : Gates := ([(255, 1)], 1)
theorem g0_ok : gatesOk g0 := ⟨by decide, by decide, (fun e he => by simp at he; subst he; decide), by decide, by decide⟩
theorem tmod1 (a : Int) : Int.tmod a 1 = 0 := by simp
theorem K80_o (t : Int) : K80 (g0, t, ()) = some (0, 1, ()) := by
  rw [K80_eq]; unfold R80
  simp only [tmod1]
  rfl
theorem bit255 {c : Nat} (hc : c < 8) : ieqF (bitI .and .i64 (shrI .i64 255 (c : Int)) 1) 1 = true := by
  match c, hc with
  | 0, _ => rfl
  | 1, _ => rfl
  | 2, _ => rfl
  | 3, _ => rfl
  | 4, _ => rfl
  | 5, _ => rfl
  | 6, _ => rfl
  | 7, _ => rfl
theorem K43_o {c : Nat} (hc : c < 8) (t : Int) : K43 (g0, (c : Int), t, ()) = some (1099511627776, ()) := by
  refine ends_eq ?_
  rw [K43_eq]; unfold R43
  refine ends_opt (ends_of (K80_o t) ?_)
  refine ends_opt' (J := fun x => x.1 = 0 ∧ x.2.1.2.1 = g0) (ends_iter
    (fun s => ∃ i : Nat, s = (((c : Int), (g0, (0, ((i : Int), (0, (1, ((i : Int), ()))))))), ()) ∧ i ≤ 2) _ (fun s => 2 - s.1.2.2.2.1.toNat) ⟨0, rfl, by omega⟩ (by simp only; omega) ?_) ?_
  · rintro s ⟨i, rfl, hi⟩
    have el : wrF .i64 ((((([(255, 1)] : List (Int × Int)).length : Nat) : Int)) + 1) = 2 := rfl
    have e4 : wrF .i64 ((i : Int) + 1) = ((i + 1 : Nat) : Int) := by rw [wr64] <;> omega
    refine ends_bif (fun hb => ?_) (fun hb => ?_)
    · simp only [el] at hb
      rw [iltF_eq] at hb
      have hb := of_decide_eq_true hb
      have hx : ([(255, 1)] : List (Int × Int))[0]? = some (255, 1) := rfl
      refine ends_opt (at_ends (n := 0) hx ?_)
      have hc' : iltF (c : Int) 0 = false := by rw [iltF_eq]; exact decide_eq_false (by omega)
      simp only [hc', cond_false, bit255 hc, Bool.not_true]
      refine ends_bif (fun hb => (by cases hb)) (fun _ => ?_)
      have em : Int.tmod (wrF .i64 (0 + 1)) ((([(255, 1)] : List (Int × Int)).length : Nat) : Int) = ((0 : Nat) : Int) := rfl
      rw [em]
      refine ends_opt (at_ends (n := 0) hx ?_)
      simp only [e4]
      exact ends_some (round_on ⟨i + 1, rfl, by omega⟩ (by simp only [Int.toNat_natCast]; omega))
    · exact ends_some (round_out ⟨rfl, rfl⟩)
  · rintro ⟨j, ⟨c', g, r⟩, u⟩ ⟨h1, h2⟩
    simp only at h1 h2
    subst h1; subst h2
    exact ends_some rfl
theorem open_o {c : Nat} (hc : c < 8) (t : Int) : openF g0 (c : Int) t = 1099511627776 := by unfold openF; rw [K43_o hc]; rfl
/-! ### The steps -/
theorem K40_s {p : Port} (h : portOk p) {t : Int} {x : Item} (hx : itemOk x) {c : Nat} {q : Queue} (hc : x.2.2.1 = (c : Int)) (hq : p.2.2.1[c]? = some q) (ho : ocS q.2 + x.2.2.2.1 ≤ q.1) :
    K40 (p, t, x, ()) = some (arrP p c q x t, true, ()) := by
  obtain ⟨h1, h2⟩ := h.q.qs c q hq
  rw [K40_eq]; unfold R40
  simp only [mkOk_8 h.q.n8, cond_true, Int.toNat_natCast, copyL_full, hc, atI_get hq, gl_eq, hq, opt_s, K57_s h1 hx ho, show ieqF (0 : Int) 0 = true from rfl, Bool.not_true, cond_false, show (Nat.beq 0 0) = true from rfl]
  rfl
theorem K38_s {p : Port} (h : portOk p) (hs : sends p) {t : Int} :
    (p.2.2.2.2.2.2.2 = 0 ∧ K38 (p, t, ()) = some (doneP p t, p.2.2.2.2.1.1, true, ())) ∨
    (p.2.2.2.2.2.2.2 ≠ 0 ∧ ∃ (c : Nat) (q : Queue), p.2.2.2.2.1.1.2.2.1 = (c : Int) ∧ c < 8 ∧ p.2.2.1[c]? = some q ∧ K38 (p, t, ()) = some (backP p c q t, zI, false, ())) := by
  by_cases hr : p.2.2.2.2.2.2.2 = 0
  · left
    refine ⟨hr, ?_⟩
    rw [K38_eq]; unfold R38
    rw [show ieqF p.2.2.2.2.2.2.2 0 = true by rw [hr]; rfl]
    rfl
  · right
    obtain ⟨c, q, hc, hc6, hq, hT, hp, h0⟩ := back_q h hs hr
    refine ⟨hr, c, q, hc, by omega, hq, ?_⟩
    rw [K38_eq]; unfold R38
    rw [show ieqF p.2.2.2.2.2.2.2 0 = false by rw [ieqF_eq, beq_eq_false_iff_ne]; exact hr]
    simp only [cond_false, mkOk_8 h.q.n8, cond_true, Int.toNat_natCast, copyL_full, hc, atI_get hq, gl_eq, hq, opt_s, K55_s (h.q.qs c q hq).1 hp rfl h0, show ieqF (0 : Int) 0 = true from rfl, Bool.not_true]
    rfl
/-- Nothing waits. -/
def empty (p : Port) : Prop := ∀ q ∈ p.2.2.1, q.2 = []
theorem may_any {p : Port} (h : portOk p) (hg : p.1.1 = g0) (hne : ¬ empty p) (t : Int) : ∃ c, c < 8 ∧ MayS p.1 (p.2.2.1.map hd) c t := by
  have hh := (heads_ok h.q h.r1).1
  have hr := (heads_ok h.q h.r1).2
  have l1 := h.l.p0; have l2 := h.l.p1
  have fits : ∀ (c : Nat) q x r, p.2.2.1[c]? = some q → q.2 = x :: r → ∃ y, (p.2.2.1.map hd)[c]? = some y ∧ partOk y ∧ y.1.2.2.1 = (c : Int) ∧ y.2.1 * p.1.2.1 ≤ openF p.1.1 c (t + p.1.2.2) := fun c q x r hq hx => by
    obtain ⟨q1, q2⟩ := h.q.qs c q hq
    have hp := q1.ps x (by rw [hx]; simp)
    have hc8 : c < 8 := by
      have := (List.getElem?_eq_some_iff.1 hq).1
      rw [h.q.n8] at this; exact this
    refine ⟨x, by rw [List.getElem?_map, hq]; simp [hd, hx], hp, q2 x (by rw [hx]; simp), ?_⟩
    rw [hg, open_o hc8]
    have hl := hp.left
    have := mul_bd (a := x.2.1) (b := p.1.2.1) (by omega) (by omega) l1 l2
    omega
  -- a rest, if there is one
  by_cases hrest : ∃ (c : Nat) (y : Part), (p.2.2.1.map hd)[c]? = some y ∧ y.2.2 = true
  · obtain ⟨c, y, hy, hb⟩ := hrest
    have hy0 := hy
    rw [List.getElem?_map, Option.map_eq_some_iff] at hy
    obtain ⟨q, hq, hqy⟩ := hy
    have hc8 : c < 8 := by
      have := (List.getElem?_eq_some_iff.1 hq).1
      rw [h.q.n8] at this; exact this
    cases hq2 : q.2 with
    | nil => unfold hd at hqy; rw [hq2] at hqy; rw [← hqy] at hb; cases hb
    | cons x r =>
      refine ⟨c, hc8, ⟨fits c q x r hq hq2, .inr fun j z hz hj => ?_⟩⟩
      cases hzb : z.2.2 with
      | false => rfl
      | true =>
        -- two rests are too many
        exfalso
        have h1 : rq (p.2.2.1.map hd) ≤ 1 := by rw [hr]; exact h.r1
        have h2 : ∀ (l : List Part) (i k : Nat) (a b : Part), l[i]? = some a → l[k]? = some b → i < k → a.2.2 = true → b.2.2 = true → 2 ≤ rq l := by
          intro l
          induction l with
          | nil => intro i k a b hi; simp at hi
          | cons w l ih =>
            intro i k a b hi hk hik ha hb
            have hw := r1_bd w
            have e : rq (w :: l) = r1 w + rq l := by unfold rq; simp
            cases k with
            | zero => omega
            | succ k =>
              simp only [List.getElem?_cons_succ] at hk
              cases i with
              | zero =>
                simp at hi; subst hi
                have h3 : r1 w = 1 := by unfold r1; rw [ha]; rfl
                have h4 : ∀ (l : List Part) (k : Nat) (b : Part), l[k]? = some b → b.2.2 = true → 1 ≤ rq l := by
                  intro l
                  induction l with
                  | nil => intro k b hk; simp at hk
                  | cons v l ih =>
                    intro k b hk hb
                    have hv := r1_bd v
                    have e : rq (v :: l) = r1 v + rq l := by unfold rq; simp
                    cases k with
                    | zero =>
                      simp at hk; subst hk
                      have := (rq_all l).1
                      have : r1 v = 1 := by unfold r1; rw [hb]; rfl
                      omega
                    | succ k => have := ih k b (by simpa using hk) hb; omega
                have := h4 l k b hk hb
                omega
              | succ i =>
                simp only [List.getElem?_cons_succ] at hi
                have := ih i k a b hi hk (by omega) ha hb
                omega
        rcases Nat.lt_or_gt_of_ne hj with hlt | hgt
        · have := h2 _ j c z y hz hy0 hlt hzb hb; omega
        · have := h2 _ c j y z hy0 hz hgt hb hzb; omega
  · have : ∃ (c : Nat) (q : Queue) (x : Part) (r : List Part), p.2.2.1[c]? = some q ∧ q.2 = x :: r := by
      apply Classical.byContradiction
      intro hno
      refine hne fun q hq => ?_
      obtain ⟨c, hc⟩ := List.getElem?_of_mem hq
      cases hq2 : q.2 with
      | nil => rfl
      | cons x r => exact absurd ⟨c, q, x, r, hc, hq2⟩ hno
    obtain ⟨c, q, x, r, hq, hx⟩ := this
    have hc8 : c < 8 := by
      have := (List.getElem?_eq_some_iff.1 hq).1
      rw [h.q.n8] at this; exact this
    refine ⟨c, hc8, ⟨fits c q x r hq hx, .inr fun j z hz hj => ?_⟩⟩
    cases hzb : z.2.2 with
    | false => rfl
    | true => exact absurd ⟨j, z, hz, hzb⟩ hrest
end Go.Proofs.Ytfpbgiaiifcnlaa.pg
/- PortOrders, plain: what a run keeps. -/
namespace Go.Proofs.Ytfpbgiaiifcnlaa.pg
open Go Go.Fz Go.Fz.Sy
set_option linter.unusedVariables false
set_option linter.unusedSimpArgs false
theorem K67_e {l : Line} {hs : List Part} {c : Nat} (h : hs[c]? = some zP) (t : Int) : K67 ((l, hs), (c : Int), t, ()) = some (0, 4, ()) := by
  rw [K67_eq]; unfold R67
  simp only [K78_s (v := (l, hs)) h, opt_s, isZ_z, Bool.not_true, Bool.not_false, cond_true]
  rfl
theorem K51_e {l : Line} {hs : List Part} (hl : lineOk l) (hh : headsOk hs) (he : ∀ c : Nat, c < 8 → hs[c]? = some zP) {t : Int} (t0 : 0 ≤ t) (t1 : t ≤ 549755813888) : K51 (l, hs, t, ()) = some (0, 4, ()) := by
  refine ends_eq ?_
  rw [K51_eq]; unfold R51
  refine ends_opt (ends_of (K66_s hl hh t0 t1) ?_)
  refine ends_bif (fun hb => (by cases hb)) (fun _ => ?_)
  refine ends_opt' (J := fun x => x.1 = 0 ∧ x.2.1.2.1 = 0 ∧ x.2.1.2.2.1 = 4) (ends_iter
    (fun s => ∃ k : Nat, s = ((t, (0, (4, ((k : Int) - 1, ())))), ((), ((), ()))) ∧ k ≤ 8) _ (fun s => (s.1.2.2.2.1 + 1).toNat) ⟨8, rfl, by omega⟩ (by simp only; omega) ?_) ?_
  · rintro s ⟨k, rfl, hk⟩
    refine ends_bif (fun hb => ?_) (fun hb => ?_)
    · simp only [Bool.not_eq_true'] at hb
      rw [iltF_eq] at hb
      have hb := of_decide_eq_false hb
      obtain ⟨k, rfl⟩ : ∃ m, k = m + 1 := ⟨k - 1, by omega⟩
      have e1 : (((k + 1 : Nat) : Int) - 1) = (k : Int) := by omega
      have e2 : wrF .i64 ((k : Int) - 1) = (k : Int) - 1 := wr64 (by omega) (by omega)
      simp only [e1]
      refine ends_opt (ends_of (K67_e (he k (by omega)) t) ?_)
      simp only [show ieqF (4 : Int) 0 = false from rfl, cond_false, opt_s, e2]
      exact ends_some (round_on ⟨k, rfl, by omega⟩ (by simp only; omega))
    · exact ends_some (round_out ⟨rfl, rfl, rfl⟩)
  · rintro ⟨j, ⟨a, b, e, y⟩, z⟩ ⟨h1, h2, h3⟩
    simp only at h1 h2 h3
    subst h1; subst h2; subst h3
    exact ends_some rfl
theorem K36_s {p : Port} (h : portOk p) (he : p.2.2.2.1 = false → empty p) : K36 (p, ()) = some (if p.2.2.2.1 = true then (p.2.2.2.2.2.2.1, 0, ()) else (0, 4, ())) := by
  rw [K36_eq]; unfold R36
  cases hb : p.2.2.2.1 with
  | true => rfl
  | false =>
    have hh := (heads_ok h.q h.r1).1
    have hem := he hb
    simp only [cond_false, K52_s h.q, opt_s]
    rw [K51_e h.l hh (fun c hc => ?_) h.n0 h.n1]
    · rfl
    · have hq : p.2.2.1[c]? = some (p.2.2.1[c]'(by have := h.q.n8; omega)) := List.getElem?_eq_getElem _
      have := hem _ (List.mem_of_getElem? hq)
      rw [List.getElem?_map, hq]
      simp only [Option.map_some, hd, this]

/-! ### The state of a run -/
abbrev Gone := Int × Item
def isC (c : Nat) (x : Item) : Bool := x.2.2.1 == (c : Int)
def gIt (c : Nat) (gn : List Gone) : List Item := (gn.map (·.2)).filter (isC c)
def cIt (c : Nat) (cs : List Come) : List Item := (cs.map (·.2)).filter (isC c)
def cur (p : Port) : List Item := if p.2.2.2.1 = true then [p.2.2.2.2.1.1] else []
def qIt (c : Nat) (qs : List Queue) : List Item := match qs[c]? with
  | some q => q.2.map (·.1)
  | none => []
def oT (qs : List Queue) : Int := (qs.map fun q => ocS q.2).sum
theorem oT_set {qs : List Queue} {c : Nat} {q q' : Queue} (h : qs[c]? = some q) : oT (qs.set c q') = oT qs - ocS q.2 + ocS q'.2 := by
  unfold oT
  rw [List.map_set]
  exact sum_set (by simp [h])
theorem oT_empty {qs : List Queue} (h : ∀ q ∈ qs, q.2 = []) : oT qs = 0 := by
  induction qs with
  | nil => rfl
  | cons q r ih =>
    have := ih fun x hx => h x (by simp [hx])
    unfold oT at this ⊢
    rw [List.map_cons, List.sum_cons, this, h q (by simp)]; rfl
theorem oT_ge {qs : List Queue} (h : qsOk qs) : 0 ≤ oT qs := by
  have key : ∀ l : List Queue, (∀ q ∈ l, 0 ≤ ocS q.2) → 0 ≤ oT l := by
    intro l
    induction l with
    | nil => intro _; exact Int.le_refl _
    | cons q r ih =>
      intro h
      have := ih fun x hx => h x (by simp [hx])
      have h2 := h q (by simp)
      unfold oT at this ⊢
      rw [List.map_cons, List.sum_cons]; omega
  refine key qs fun q hq => ?_
  obtain ⟨i, hi⟩ := List.getElem?_of_mem hq
  have hp := (h.qs i q hi).1.ps
  unfold ocS
  have : ∀ l : List Part, (∀ x ∈ l, partOk x) → 0 ≤ (l.map (·.2.1)).sum := by
    intro l
    induction l with
    | nil => intro _; exact Int.le_refl _
    | cons a l ih =>
      intro h
      have h1 := ih fun x hx => h x (by simp [hx])
      have h2 := (h a (by simp)).left
      rw [List.map_cons, List.sum_cons]; omega
  exact this q.2 hp
def wrk (per : Int) (p : Port) (tt : Int) : Int := (if p.2.2.2.1 = true then p.2.2.2.2.2.2.1 - tt + p.2.2.2.2.2.2.2 * per else 0) + oT p.2.2.1 * per
structure RI (all : List Come) (per last : Int) (p : Port) (cs : List Come) (gn : List Gone) (tt ex : Int) : Prop where
  ok : portOk p
  ln : p.1 = (g0, per, 0)
  cp : ∀ q ∈ p.2.2.1, q.1 = 65536
  t0 : p.2.1 ≤ tt
  tb : p.2.2.2.1 = true → tt ≤ p.2.2.2.2.2.2.1
  lo : ∀ c ∈ cs, tt ≤ c.1
  hi : ∀ c ∈ cs, c.1 ≤ last
  so : cs.Pairwise fun a b => a.1 ≤ b.1
  su : ∀ c ∈ cs, c ∈ all
  it : ∀ c ∈ all, itemOk c.2
  sq : ∀ c, c < 8 → gIt c gn ++ ((cur p).filter (isC c) ++ (qIt c p.2.2.1 ++ cIt c cs)) = cIt c all
  ct : (gn.length : Int) + bz p + nS p.2.2.1 + cs.length = all.length
  a16 : all.length ≤ 16
  gt : ∀ g ∈ gn, g.1 ≤ tt ∧ (p.2.2.2.1 = true → g.1 < p.2.2.2.2.2.2.1)
  gs : gn.Pairwise fun a b => a.1 < b.1
  gc : ∀ g ∈ gn, ∃ a ∈ all, a.2 = g.2 ∧ a.1 + g.2.2.2.2.1 * per ≤ g.1
  qa : ∀ q ∈ p.2.2.1, ∀ x ∈ q.2, ∃ a ∈ all, a.2 = x.1 ∧ a.1 + (x.1.2.2.2.1 - x.2.1) * per ≤ tt
  sa : p.2.2.2.1 = true → ∃ a ∈ all, a.2 = p.2.2.2.2.1.1 ∧ a.1 + (p.2.2.2.2.1.1.2.2.2.1 - p.2.2.2.2.1.2.1) * per ≤ p.2.2.2.2.2.1 ∧ (p.2.2.2.2.2.2.2 ≠ 0 → a.1 + (p.2.2.2.2.1.1.2.2.2.1 - p.2.2.2.2.2.2.2) * per ≤ p.2.2.2.2.2.2.1)
  wk : tt + wrk per p tt + ex ≤ last + 1600 * per * (all.length - cs.length)
  e0 : 0 ≤ ex
  p1 : 1 ≤ per
  p2 : per ≤ 1000
variable {all : List Come} {per last : Int} {p : Port} {cs : List Come} {gn : List Gone} {tt ex : Int}
theorem RI.sends (h : RI all per last p cs gn tt ex) (hb : p.2.2.2.1 = true) : sends p := by
  rcases h.ok.s with hi | hs
  · rw [hi.b] at hb; cases hb
  · exact hs
theorem RI.later (h : RI all per last p cs gn tt ex) {t : Int} (ht : tt ≤ t) (hb : p.2.2.2.1 = true → t ≤ p.2.2.2.2.2.2.1) (hc : ∀ c ∈ cs, t ≤ c.1) (hi : p.2.2.2.1 = false → empty p ∧ t ≤ last) (hx : cs.length ≤ all.length) : RI all per last p cs gn t 0 := by
  have p1 := h.p1
  have t0 := h.t0
  refine ⟨h.ok, h.ln, h.cp, by omega, hb, hc, h.hi, h.so, h.su, h.it, h.sq, h.ct, h.a16, fun g hg => ⟨by have := (h.gt g hg).1; omega, (h.gt g hg).2⟩, h.gs, h.gc, fun q hq x hx => ?_, h.sa, ?_, Int.le_refl _, h.p1, h.p2⟩
  · obtain ⟨a, h1, h2, h3⟩ := h.qa q hq x hx
    exact ⟨a, h1, h2, by omega⟩
  · have hw := h.wk
    have e0 := h.e0
    unfold wrk at hw ⊢
    cases hbz : p.2.2.2.1 with
    | true => rw [hbz] at hw; simp only [if_true] at hw ⊢; omega
    | false =>
      obtain ⟨he, hl⟩ := hi hbz
      simp only [Bool.false_eq_true, if_false]
      rw [oT_empty he]
      have : 0 ≤ 1600 * per * ((all.length : Int) - cs.length) := Int.mul_nonneg (by omega) (by omega)
      omega
theorem RI.arr {x : Come} (h : RI all per last p (x :: cs) gn tt ex) (hx : x.1 = tt) (t1 : tt ≤ 549755813888) : ∃ p', K40 (p, tt, x.2, ()) = some (p', true, ()) ∧ RI all per last p' cs gn tt (48 * per) ∧ p'.2.2.2 = p.2.2.2 := by
  have hi := h.it x (h.su x (by simp))
  have n0 := h.ok.n0
  have t0 := h.t0
  have hrm := h.ct
  have ha16 := h.a16
  have hbz : 0 ≤ bz p := by unfold bz; split <;> omega
  simp only [List.length_cons] at hrm
  obtain ⟨c, hc⟩ := Int.eq_ofNat_of_zero_le hi.c0
  have hc8 : c < 8 := by have := hi.c1; omega
  have hq : p.2.2.1[c]? = some (p.2.2.1[c]'(by have := h.ok.q.n8; omega)) := List.getElem?_eq_getElem _
  generalize p.2.2.1[c]'(by have := h.ok.q.n8; omega) = q at hq
  obtain ⟨q1, q2⟩ := h.ok.q.qs c q hq
  have hm := nS_mem hq
  have hcap := h.cp q (List.mem_of_getElem? hq)
  have ho : ocS q.2 + x.2.2.2.2.1 ≤ q.1 := by
    have h1 := sum_bd (l := q.2.map (·.2.1)) (M := 1542) (fun y hy => by
      obtain ⟨z, hz, rfl⟩ := List.mem_map.1 hy
      have := (q1.ps z hz).left; omega) q.2.length
    rw [List.take_of_length_le (by simp)] at h1
    simp only [List.length_map] at h1
    have := hi.z1
    unfold ocS
    omega
  have ha := arr_ok h.ok t0 t1 h.tb hi hc hq ho (by omega)
  refine ⟨_, K40_s h.ok hi hc hq ho, ⟨ha, h.ln, cp_set h.cp hcap, Int.le_refl _, h.tb, fun y hy => h.lo y (by simp [hy]), fun y hy => h.hi y (by simp [hy]), (List.pairwise_cons.1 h.so).2, fun y hy => h.su y (by simp [hy]), h.it, fun d hd => ?_, ?_, h.a16, h.gt, h.gs, h.gc, fun z hz y hy => ?_, h.sa, ?_, by have := h.p1; omega, h.p1, h.p2⟩, rfl⟩
  · have hs := h.sq d hd
    have hcur : cur (arrP p c q x.2 tt) = cur p := rfl
    rw [hcur, ← hs]
    congr 2
    show qIt d (p.2.2.1.set c (q.1, q.2 ++ [(x.2, x.2.2.2.2.1, false)])) ++ cIt d cs = qIt d p.2.2.1 ++ cIt d (x :: cs)
    have hcd : cIt d (x :: cs) = (if d = c then [x.2] else []) ++ cIt d cs := by
      unfold cIt
      rw [List.map_cons, List.filter_cons]
      have hcc : isC d x.2 = decide (d = c) := by
        unfold isC; rw [hc]
        by_cases hdc : d = c
        · subst hdc; simp
        · have : ¬ (c : Int) = (d : Int) := by omega
          simp [hdc, this]
      rw [hcc]
      by_cases hdc : d = c <;> simp [hdc]
    rw [hcd]
    unfold qIt
    rw [List.getElem?_set]
    by_cases hdc : c = d
    · subst hdc
      have hlt := (List.getElem?_eq_some_iff.1 hq).1
      rw [if_pos rfl, if_pos hlt, hq]
      simp
    · have : ¬ d = c := fun e => hdc e.symm
      simp [hdc, this]
  · have hz : bz (arrP p c q x.2 tt) = bz p := rfl
    rw [hz]
    show _ + nS (p.2.2.1.set c (q.1, q.2 ++ [(x.2, x.2.2.2.2.1, false)])) + _ = _
    rw [nS_set hq]
    simp only [List.length_append, List.length_cons, List.length_nil]
    push_cast at hrm ⊢
    omega
  · rcases List.mem_or_eq_of_mem_set hz with h1 | h1
    · exact h.qa z h1 y hy
    · subst h1
      rcases List.mem_append.1 hy with hy | hy
      · exact h.qa q (List.mem_of_getElem? hq) y hy
      · simp at hy; subst hy
        refine ⟨x, h.su x (by simp), rfl, ?_⟩
        simp only [Int.sub_self, Int.zero_mul]
        omega
  · have hw := h.wk
    have e0 := h.e0
    have hz := hi.z1
    have p1 := h.p1
    have hcl : ((x :: cs).length : Int) = cs.length + 1 := by simp
    rw [hcl] at hw
    unfold wrk at hw ⊢
    have hot : oT (arrP p c q x.2 tt).2.2.1 = oT p.2.2.1 + x.2.2.2.2.1 := by
      show oT (p.2.2.1.set c (q.1, q.2 ++ [(x.2, x.2.2.2.2.1, false)])) = _
      rw [oT_set hq]
      have : ocS (q.2 ++ [(x.2, x.2.2.2.2.1, false)]) = ocS q.2 + x.2.2.2.2.1 := by unfold ocS; simp
      simp only [this]; omega
    rw [hot]
    have e1 : (arrP p c q x.2 tt).2.2.2 = p.2.2.2 := rfl
    rw [e1]
    have e2 : (oT p.2.2.1 + x.2.2.2.2.1) * per = oT p.2.2.1 * per + x.2.2.2.2.1 * per := Int.add_mul _ _ _
    have e3 : x.2.2.2.2.1 * per ≤ 1542 * per := Int.mul_le_mul_of_nonneg_right hz (by omega)
    have e4 : 1600 * per * ((all.length : Int) - cs.length) = 1600 * per * ((all.length : Int) - (cs.length + 1)) + 1600 * per := by
      rw [show (all.length : Int) - cs.length = ((all.length : Int) - (cs.length + 1)) + 1 by omega, Int.mul_add, Int.mul_one]
    rw [e2, e4]
    omega
theorem RI.end_ (h : RI all per last p cs gn tt ex) (hb : p.2.2.2.1 = true) (he : p.2.2.2.2.2.2.1 = tt) (t1 : tt ≤ 549755813888) :
    (K38 (p, tt, ()) = some (doneP p tt, p.2.2.2.2.1.1, true, ()) ∧ RI all per last (doneP p tt) cs (gn ++ [(tt, p.2.2.2.2.1.1)]) tt 0) ∨
    (p.2.2.2.2.2.2.2 ≠ 0 ∧ ∃ p', K38 (p, tt, ()) = some (p', zI, false, ()) ∧ RI all per last p' cs gn tt 0 ∧ p'.2.2.2.1 = false) := by
  have hs := h.sends hb
  have n0 := h.ok.n0
  have t0 := h.t0
  have hbz : bz p = 1 := by unfold bz; simp [hb]
  have hrm := h.ct
  have e0 := h.e0
  have p1 := h.p1
  obtain ⟨a, a1, a2, a3, a4⟩ := h.sa hb
  have hper : p.1.2.1 = per := by rw [h.ln]
  have hcur : cur p = [p.2.2.2.2.1.1] := by unfold cur; simp [hb]
  rcases K38_s h.ok hs (t := tt) with ⟨hr, hk⟩ | ⟨hr, c, q, hc, hc8, hq, hk⟩
  · left
    refine ⟨hk, done_ok h.ok (by omega) t1, h.ln, h.cp, Int.le_refl _, (fun hf => by cases hf), h.lo, h.hi, h.so, h.su, h.it, fun d hd => ?_, ?_, h.a16, fun g hg => ⟨?_, fun hf => by cases hf⟩, ?_, fun g hg => ?_, h.qa, (fun hf => by cases hf), ?_, Int.le_refl _, h.p1, h.p2⟩
    · rw [← h.sq d hd, hcur]
      have hz : cur (doneP p tt) = [] := rfl
      rw [hz]
      unfold gIt
      rw [List.map_append, List.filter_append, List.append_assoc]
      rfl
    · have hz : bz (doneP p tt) = 0 := rfl
      rw [hz]
      show _ + 0 + nS p.2.2.1 + _ = _
      rw [List.length_append]
      simp only [List.length_cons, List.length_nil]
      push_cast
      omega
    · rcases List.mem_append.1 hg with hg | hg
      · exact (h.gt g hg).1
      · simp at hg; subst hg; exact Int.le_refl _
    · rw [List.pairwise_append]
      refine ⟨h.gs, List.pairwise_singleton _ _, fun x hx y hy => ?_⟩
      simp at hy; subst hy
      have := (h.gt x hx).2 hb
      show x.1 < tt
      omega
    · rcases List.mem_append.1 hg with hg | hg
      · exact h.gc g hg
      · simp at hg; subst hg
        refine ⟨a, a1, a2, ?_⟩
        have hend : p.2.2.2.2.2.2.1 = p.2.2.2.2.2.1 + p.2.2.2.2.1.2.1 * p.1.2.1 := by
          rcases hs.r with ⟨_, h2⟩ | ⟨_, h2, _⟩
          · exact h2
          · omega
        rw [hper, he] at hend
        rw [Int.sub_mul] at a3
        show a.1 + p.2.2.2.2.1.1.2.2.2.1 * per ≤ tt
        omega
    · have hw := h.wk
      unfold wrk at hw ⊢
      rw [hb, he, hr] at hw
      simp only [if_true, Int.zero_mul, Int.sub_self] at hw
      have hz : (doneP p tt).2.2.2.1 = false := rfl
      rw [hz]
      simp only [Bool.false_eq_true, if_false]
      show tt + (0 + oT p.2.2.1 * per) + 0 ≤ _
      omega
  · right
    have hm := nS_mem hq
    have hcap := h.cp q (List.mem_of_getElem? hq)
    have ha16 := h.a16
    have hlt : c < p.2.2.1.length := (List.getElem?_eq_some_iff.1 hq).1
    refine ⟨hr, _, hk, ⟨back_ok h.ok hs hr hc hq (by omega) (by omega) t1, h.ln, cp_set h.cp hcap, Int.le_refl _, (fun hf => by cases hf), h.lo, h.hi, h.so, h.su, h.it, fun d hd => ?_, ?_, h.a16, fun g hg => ⟨(h.gt g hg).1, fun hf => by cases hf⟩, h.gs, h.gc, fun z hz y hy => ?_, (fun hf => by cases hf), ?_, Int.le_refl _, h.p1, h.p2⟩, rfl⟩
    · rw [← h.sq d hd, hcur]
      have hz : cur (backP p c q tt) = [] := rfl
      rw [hz]
      have hqs : (backP p c q tt).2.2.1 = p.2.2.1.set c (q.1, (p.2.2.2.2.1.1, p.2.2.2.2.2.2.2, true) :: q.2) := rfl
      rw [hqs]
      refine congrArg (gIt d gn ++ ·) ?_
      have hcc : isC d p.2.2.2.2.1.1 = decide (d = c) := by
        unfold isC; rw [hc]
        by_cases hdc : d = c
        · subst hdc; simp
        · have : ¬ (c : Int) = (d : Int) := by omega
          simp [hdc, this]
      rw [List.filter_cons, hcc]
      unfold qIt
      rw [List.getElem?_set]
      by_cases hdc : c = d
      · subst hdc
        rw [if_pos rfl, if_pos hlt, hq]
        simp
      · have : ¬ d = c := fun e => hdc e.symm
        simp [hdc, this]
    · have hz : bz (backP p c q tt) = 0 := rfl
      rw [hz]
      have hqs : (backP p c q tt).2.2.1 = p.2.2.1.set c (q.1, (p.2.2.2.2.1.1, p.2.2.2.2.2.2.2, true) :: q.2) := rfl
      rw [hqs, nS_set hq]
      simp only [List.length_cons]
      push_cast
      omega
    · rcases List.mem_or_eq_of_mem_set hz with h1 | h1
      · exact h.qa z h1 y hy
      · subst h1
        rcases List.mem_cons.1 hy with rfl | hy
        · exact ⟨a, a1, a2, by have := a4 hr; show a.1 + (p.2.2.2.2.1.1.2.2.2.1 - p.2.2.2.2.2.2.2) * per ≤ tt; omega⟩
        · exact h.qa q (List.mem_of_getElem? hq) y hy
    · have hw := h.wk
      unfold wrk at hw ⊢
      rw [hb, he] at hw
      simp only [if_true, Int.sub_self] at hw
      have hz : (backP p c q tt).2.2.2.1 = false := rfl
      rw [hz]
      simp only [Bool.false_eq_true, if_false]
      have hot : oT (backP p c q tt).2.2.1 = oT p.2.2.1 + p.2.2.2.2.2.2.2 := by
        have hqs : (backP p c q tt).2.2.1 = p.2.2.1.set c (q.1, (p.2.2.2.2.1.1, p.2.2.2.2.2.2.2, true) :: q.2) := rfl
        rw [hqs, oT_set hq]
        have : ocS ((p.2.2.2.2.1.1, p.2.2.2.2.2.2.2, true) :: q.2) = p.2.2.2.2.2.2.2 + ocS q.2 := by unfold ocS; simp
        simp only [this]; omega
      rw [hot, Int.add_mul]
      omega
end Go.Proofs.Ytfpbgiaiifcnlaa.pg
/- PortOrders, plain: a port chooses; how far a run is. -/
namespace Go.Proofs.Ytfpbgiaiifcnlaa.pg
open Go Go.Fz Go.Fz.Sy
set_option linter.unusedVariables false
set_option linter.unusedSimpArgs false
variable {all : List Come} {per last : Int} {p : Port} {cs : List Come} {gn : List Gone} {tt ex : Int}
def rz (p : Port) : Nat := if p.2.2.2.2.2.2.2 = 0 then 0 else 1
theorem rz_le (p : Port) : rz p ≤ 1 := by unfold rz; split <;> omega
def meas (all : List Come) (p : Port) (cs : List Come) (gn : List Gone) : Nat := 2 * cs.length + 2 * (all.length - gn.length) + rz p
theorem RI.cho (h : RI all per last p cs gn tt ex) (hx : p.2.2.2.1 = true → 48 * per ≤ ex) (t1 : tt ≤ 549755813888) :
    ∃ p', K41 (p, tt, ()) = some (p', ()) ∧ RI all per last p' cs gn tt 0 ∧ (p'.2.2.2.1 = false → empty p') ∧ rz p' ≤ rz p + 1 ∧ (p.2.2.2.1 = false → rz p' = 0) := by
  obtain ⟨p', hk, hc⟩ := K41_s h.ok h.t0 t1 h.tb
  have hok := hc.ok h.ok h.t0 t1 h.tb
  refine ⟨p', hk, ?_⟩
  have n0 := h.ok.n0
  have e0 := h.e0
  have p1 := h.p1
  have hrm := h.ct
  have hper : p.1.2.1 = per := by rw [h.ln]
  have tb' : p'.2.2.2.1 = true → p'.2.1 ≤ p'.2.2.2.2.2.2.1 := fun hb => by
    rcases hok.s with hi | hs
    · rw [hi.b] at hb; cases hb
    · exact hs.e
  cases hc with
  | none hno =>
    refine ⟨⟨hok, h.ln, h.cp, Int.le_refl _, tb', h.lo, h.hi, h.so, h.su, h.it, h.sq, h.ct, h.a16, h.gt, h.gs, h.gc, h.qa, h.sa, ?_, Int.le_refl _, h.p1, h.p2⟩, fun hb => ?_, Nat.le_succ _, fun hb => ?_⟩
    · have hw := h.wk
      unfold wrk at hw ⊢
      simp only at hw ⊢
      omega
    · apply Classical.byContradiction
      intro hne
      obtain ⟨c, h1, h2⟩ := may_any (p := p) h.ok (by rw [h.ln]) hne tt
      exact hno hb c h1 h2
    · rcases h.ok.s with hi | hs
      · unfold rz
        show (if p.2.2.2.2.2.2.2 = 0 then 0 else 1) = 0
        rw [if_pos hi.r]
      · rw [hs.b] at hb; cases hb
  | start c q x r hb hcc hq hxr hm =>
    have hcap := h.cp q (List.mem_of_getElem? hq)
    obtain ⟨q1, q2⟩ := h.ok.q.qs c q hq
    have hxm : x ∈ q.2 := by rw [hxr]; simp
    have hcl := q2 x hxm
    have hxp := q1.ps x hxm
    have hl := hxp.left
    have hlt : c < p.2.2.1.length := (List.getElem?_eq_some_iff.1 hq).1
    have hqs : (startP (p.1, tt, p.2.2) c q.1 x r tt).2.2.1 = p.2.2.1.set c (q.1, r) := rfl
    have hcur : cur p = [] := by unfold cur; simp [hb]
    have hpos : 1 ≤ x.2.1 * per := by
      have : 0 < x.2.1 * per := Int.mul_pos (by omega) (by omega)
      omega
    refine ⟨⟨hok, h.ln, cp_set h.cp hcap, Int.le_refl _, tb', h.lo, h.hi, h.so, h.su, h.it, fun d hd => ?_, ?_, h.a16, fun g hg => ⟨(h.gt g hg).1, fun _ => ?_⟩, h.gs, h.gc, fun z hz y hy => ?_, fun _ => ?_, ?_, Int.le_refl _, h.p1, h.p2⟩, (fun hf => by cases hf), ?_, fun _ => rfl⟩
    · rw [← h.sq d hd, hcur, hqs]
      refine congrArg (gIt d gn ++ ·) ?_
      have hcs : cur (startP (p.1, tt, p.2.2) c q.1 x r tt) = [x.1] := rfl
      rw [hcs]
      have hcc2 : isC d x.1 = decide (d = c) := by
        unfold isC; rw [hcl]
        by_cases hdc : d = c
        · subst hdc; simp
        · have : ¬ (c : Int) = (d : Int) := by omega
          simp [hdc, this]
      rw [List.filter_cons, hcc2]
      unfold qIt
      rw [List.getElem?_set]
      by_cases hdc : c = d
      · subst hdc
        rw [if_pos rfl, if_pos hlt, hq]
        simp [hxr]
      · have : ¬ d = c := fun e => hdc e.symm
        simp [hdc, this]
    · have hz : bz (startP (p.1, tt, p.2.2) c q.1 x r tt) = 1 := rfl
      have hz0 : bz p = 0 := by unfold bz; simp [hb]
      rw [hz, hqs, nS_set hq]
      simp only [hxr, List.length_cons]
      push_cast
      omega
    · have := (h.gt g hg).1
      show g.1 < tt + x.2.1 * p.1.2.1
      rw [hper]; omega
    · rcases List.mem_or_eq_of_mem_set hz with h1 | h1
      · exact h.qa z h1 y hy
      · subst h1
        exact h.qa q (List.mem_of_getElem? hq) y (by rw [hxr]; simp [show y ∈ r from hy])
    · obtain ⟨a, a1, a2, a3⟩ := h.qa q (List.mem_of_getElem? hq) x hxm
      exact ⟨a, a1, a2, a3, fun hr => absurd rfl hr⟩
    · have hw := h.wk
      unfold wrk at hw ⊢
      rw [hb] at hw
      simp only [Bool.false_eq_true, if_false] at hw
      have hz : (startP (p.1, tt, p.2.2) c q.1 x r tt).2.2.2.1 = true := rfl
      have hz2 : (startP (p.1, tt, p.2.2) c q.1 x r tt).2.2.2.2.2.2.1 = tt + x.2.1 * p.1.2.1 := rfl
      have hz3 : (startP (p.1, tt, p.2.2) c q.1 x r tt).2.2.2.2.2.2.2 = 0 := rfl
      rw [hz, hz2, hz3, hqs, oT_set hq, hper]
      have : ocS q.2 = x.2.1 + ocS r := by rw [hxr]; unfold ocS; simp
      rw [this]
      simp only [if_true, Int.zero_mul]
      have e2 : (oT p.2.2.1 - (x.2.1 + ocS r) + ocS (q.1, r).2) * per = oT p.2.2.1 * per - x.2.1 * per := by
        rw [← Int.sub_mul]; congr 1; show oT p.2.2.1 - (x.2.1 + ocS r) + ocS r = _; omega
      rw [e2]
      omega
    · have : rz (startP (p.1, tt, p.2.2) c q.1 x r tt) = 0 := rfl
      omega
  | cut k hb hp hr k1 k2 k3 =>
    have hs := h.sends hb
    obtain ⟨a, a1, a2, a3, a4⟩ := h.sa hb
    have hxx := hx hb
    have hend : p.2.2.2.2.2.2.1 = p.2.2.2.2.2.1 + p.2.2.2.2.1.2.1 * p.1.2.1 := by
      rcases hs.r with ⟨_, h2⟩ | ⟨_, h2, _⟩
      · exact h2
      · omega
    rw [hper] at hend k3 hok tb' ⊢
    have f1 : (k + 24) * per = k * per + 24 * per := Int.add_mul _ _ _
    refine ⟨⟨hok, h.ln, h.cp, Int.le_refl _, tb', h.lo, h.hi, h.so, h.su, h.it, fun d hd => ?_, ?_, h.a16, fun g hg => ⟨(h.gt g hg).1, fun _ => ?_⟩, h.gs, h.gc, h.qa, fun _ => ⟨a, a1, a2, a3, fun _ => ?_⟩, ?_, Int.le_refl _, h.p1, h.p2⟩, (fun hf => by cases hf), ?_, fun hf => by rw [hb] at hf; cases hf⟩
    · rw [← h.sq d hd]
      have : cur p = [p.2.2.2.2.1.1] := by unfold cur; simp [hb]
      rw [this]
      rfl
    · have hz : bz p = 1 := by unfold bz; simp [hb]
      rw [hz] at hrm
      exact hrm
    · have := (h.gt g hg).1
      show g.1 < p.2.2.2.2.2.1 + (k + 24) * per
      omega
    · show a.1 + (p.2.2.2.2.1.1.2.2.2.1 - (p.2.2.2.2.1.2.1 - k + 24)) * per ≤ p.2.2.2.2.2.1 + (k + 24) * per
      have f2 : (p.2.2.2.2.1.1.2.2.2.1 - (p.2.2.2.2.1.2.1 - k + 24)) * per = (p.2.2.2.2.1.1.2.2.2.1 - p.2.2.2.2.1.2.1) * per + k * per - 24 * per := by
        rw [← Int.add_mul, ← Int.sub_mul]; congr 1; omega
      omega
    · have hw := h.wk
      unfold wrk at hw ⊢
      rw [hb, hr] at hw
      simp only [if_true, Int.zero_mul] at hw ⊢
      have f2 : (p.2.2.2.2.1.2.1 - k + 24) * per = p.2.2.2.2.1.2.1 * per - k * per + 24 * per := by
        rw [← Int.sub_mul, ← Int.add_mul]
      rw [f1, f2]
      omega
    · have := rz_le ((p.1, tt, p.2.2.1, true, p.2.2.2.2.1, p.2.2.2.2.2.1, p.2.2.2.2.2.1 + (k + 24) * per, p.2.2.2.2.1.2.1 - k + 24) : Port)
      omega
end Go.Proofs.Ytfpbgiaiifcnlaa.pg
/- PortOrders, plain: what port.Run makes of frames at open gates. -/
namespace Go.Proofs.Ytfpbgiaiifcnlaa.pg
open Go Go.Fz Go.Fz.Sy
set_option linter.unusedVariables false
set_option linter.unusedSimpArgs false
theorem K31_s {p : Port} {cs : List Come} {u : Int} (hlo : ∀ c ∈ cs, p.2.1 ≤ c.1 ∧ c.1 ≤ u) (hso : cs.Pairwise fun a b => a.1 ≤ b.1) (hit : ∀ c ∈ cs, itemOk c.2) (hu : p.2.1 ≤ u) (hu1 : u ≤ 549755813888) (hn : cs.length ≤ 16) : K31 (p, cs, u, ()) = some (0, ()) := by
  refine ends_eq ?_
  rw [K31_eq]; unfold R31
  refine ends_opt' (J := fun x => x.1 = 0) (ends_iter
    (fun s => ∃ (b : Int) (i : Nat), s = ((0, (b, ((i : Int), ()))), ()) ∧ i ≤ cs.length ∧ ∀ (j : Nat) c, i ≤ j → cs[j]? = some c → b ≤ c.1) _ (fun s => 16 - s.1.2.2.1.toNat) ⟨p.2.1, 0, rfl, Nat.zero_le _, fun j c _ hc => (hlo c (List.mem_of_getElem? hc)).1⟩ (by simp only; omega) ?_) ?_
  · rintro s ⟨b, i, rfl, hi, hb⟩
    refine ends_bif (fun hlt => ?_) (fun _ => ends_some (round_out rfl))
    rw [iltF_eq] at hlt
    have hlt := of_decide_eq_true hlt
    simp only at hlt
    have hx : cs[i]? = some (cs[i]'(by omega)) := List.getElem?_eq_getElem _
    generalize cs[i]'(by omega) = x at hx
    have h1 := hb i x (Nat.le_refl _) hx
    have h2 := hlo x (List.mem_of_getElem? hx)
    refine ends_opt (at_ends hx ?_)
    have e1 : iltF x.1 b = false := by rw [iltF_eq]; exact decide_eq_false (by omega)
    have e2 : iltF u x.1 = false := by rw [iltF_eq]; exact decide_eq_false (by omega)
    have e4 : wrF .i64 ((i : Int) + 1) = ((i + 1 : Nat) : Int) := by rw [wr64] <;> omega
    simp only [e1, e2, cond_false, opt_s, show (Nat.beq 0 0) = true from rfl, cond_true, e4]
    refine ends_some (round_on ⟨x.1, i + 1, rfl, by omega, fun j c hj hc => ?_⟩ (by simp only [Int.toNat_natCast]; omega))
    obtain ⟨q1, q2⟩ := List.getElem?_eq_some_iff.1 hx
    obtain ⟨q3, q4⟩ := List.getElem?_eq_some_iff.1 hc
    have := (List.pairwise_iff_getElem.1 hso) i j q1 q3 (by omega)
    rw [q2, q4] at this
    exact this
  · rintro ⟨j, y⟩ h1
    simp only at h1
    subst h1
    have e1 : iltF u p.2.1 = false := by rw [iltF_eq]; exact decide_eq_false (by omega)
    have e2 : iltF 549755813888 u = false := by rw [iltF_eq]; exact decide_eq_false (by omega)
    simp only [e1, e2, cond_false, opt_s, show (Nat.beq 0 0) = true from rfl, cond_true]
    refine ends_opt' (J := fun x => x.1 = 0) (ends_iter
      (fun s => ∃ (i : Nat), s = ((y.1.1, ((i : Int), ())), ()) ∧ i ≤ cs.length) _ (fun s => 16 - s.1.2.1.toNat) ⟨0, rfl, Nat.zero_le _⟩ (by simp only; omega) ?_) ?_
    · rintro s ⟨i, rfl, hi⟩
      refine ends_bif (fun hlt => ?_) (fun _ => ends_some (round_out rfl))
      rw [iltF_eq] at hlt
      have hlt := of_decide_eq_true hlt
      simp only at hlt
      have hx : cs[i]? = some (cs[i]'(by omega)) := List.getElem?_eq_getElem _
      generalize cs[i]'(by omega) = x at hx
      refine ends_opt (at_ends hx ?_)
      have e4 : wrF .i64 ((i : Int) + 1) = ((i + 1 : Nat) : Int) := by rw [wr64] <;> omega
      simp only [K39_s (hit x (List.mem_of_getElem? hx)), opt_s, show ieqF (0 : Int) 0 = true from rfl, Bool.not_true, cond_false, e4]
      exact ends_some (round_on ⟨i + 1, rfl, by omega⟩ (by simp only [Int.toNat_natCast]; omega))
    · rintro ⟨j, z⟩ h1
      simp only at h1
      subst h1
      exact ends_some rfl
/-- What is left when a run is over. -/
structure RunOk (all : List Come) (per : Int) (p : Port) (gn : List Gone) : Prop where
  b : p.2.2.2.1 = false
  len : gn.length = all.length
  gs : gn.Pairwise fun a b => a.1 < b.1
  g0 : ∀ g ∈ gn, 0 ≤ g.1
  gc : ∀ g ∈ gn, ∃ a ∈ all, a.2 = g.2 ∧ a.1 + g.2.2.2.2.1 * per ≤ g.1
  sq : ∀ c, c < 8 → gIt c gn = cIt c all
variable {all : List Come} {per last : Int} {p : Port} {cs : List Come} {gn : List Gone} {tt ex : Int}
theorem RI.len (h : RI all per last p cs gn tt ex) : cs.length ≤ all.length ∧ gn.length + cs.length ≤ all.length := by
  have := h.ct
  have h2 := nS_ge (qs := p.2.2.1)
  have : 0 ≤ bz p := by unfold bz; split <;> omega
  omega
/-- Everything is over before the bound. -/
theorem RI.soon (h : RI all per last p cs gn tt ex) : tt ≤ last + 25600000 ∧ (p.2.2.2.1 = true → p.2.2.2.2.2.2.1 ≤ last + 25600000) := by
  have hw := h.wk
  have e0 := h.e0
  have p1 := h.p1
  have p2 := h.p2
  have hl := h.len
  have ha := h.a16
  have ho := oT_ge h.ok.q
  have h1 : 0 ≤ oT p.2.2.1 * per := Int.mul_nonneg ho (by omega)
  have h2 : 1600 * per * ((all.length : Int) - cs.length) ≤ 25600000 := by
    have e1 : 1600 * per ≤ 1600000 := by omega
    have e2 : 1600 * per * ((all.length : Int) - cs.length) ≤ 1600000 * ((all.length : Int) - cs.length) := Int.mul_le_mul_of_nonneg_right e1 (by omega)
    omega
  unfold wrk at hw
  cases hb : p.2.2.2.1 with
  | false => rw [hb] at hw; simp only [Bool.false_eq_true, if_false] at hw; exact ⟨by omega, fun hf => by cases hf⟩
  | true =>
    rw [hb] at hw
    simp only [if_true] at hw
    have hs := h.sends hb
    have htb := h.tb hb
    have hr : 0 ≤ p.2.2.2.2.2.2.2 := by rcases hs.r with ⟨h, _⟩ | ⟨_, h, _⟩ <;> omega
    have h3 : 0 ≤ p.2.2.2.2.2.2.2 * per := Int.mul_nonneg hr (by omega)
    exact ⟨by omega, fun _ => by omega⟩
theorem dec0 : 3 - Int.toNat (wrF .i64 (((0 : Nat) : Int) + 1)) < 3 - Int.toNat ((0 : Nat) : Int) := by decide
theorem dec1 : 3 - Int.toNat (wrF .i64 (((1 : Nat) : Int) + 1)) < 3 - Int.toNat ((1 : Nat) : Int) := by decide
theorem dec2 : 3 - Int.toNat (wrF .i64 (((2 : Nat) : Int) + 1)) < 3 - Int.toNat ((2 : Nat) : Int) := by decide
/-- When something happens next. -/
structure Ev (p : Port) (cs : List Come) (last tt t : Int) : Prop where
  l : tt ≤ t
  b : p.2.2.2.1 = true → t ≤ p.2.2.2.2.2.2.1
  c : ∀ c ∈ cs, t ≤ c.1
  n : p.2.2.2.1 = false → t ≤ last
  w : (∃ x r, cs = x :: r ∧ x.1 = t) ∨ (p.2.2.2.1 = true ∧ p.2.2.2.2.2.2.1 = t)
theorem newP_RI {all : List Come} {per last : Int} (p1 : 1 ≤ per) (p2 : per ≤ 1000) (hc : comesOk all 0 0 last) (hn : all.length ≤ 16) (hl : 0 ≤ last) (hlo : lineOk (g0, per, 0)) : RI all per last (newP (g0, per, 0)) all [] 0 0 := by
  have hq : ∀ q ∈ (newP (g0, per, 0)).2.2.1, q = (65536, []) := fun q hq => by
    have : q ∈ List.replicate 8 ((65536 : Int), ([] : List Part)) := hq
    exact (List.mem_replicate.1 this).2
  refine ⟨newP_ok hlo, rfl, fun q h => by rw [hq q h], Int.le_refl _, (fun h => by cases h), hc.lo, hc.hi, hc.so, fun c h => h, fun c h => ?_, fun c hc8 => ?_, ?_, hn, (fun g hg => by cases hg), List.Pairwise.nil, (fun g hg => by cases hg), fun q h x hx => ?_, (fun h => by cases h), ?_, Int.le_refl _, p1, p2⟩
  · obtain ⟨j, hj⟩ := List.getElem?_of_mem h
    exact (hc.it j c hj).1
  · have : qIt c (newP (g0, per, 0)).2.2.1 = [] := by
      unfold qIt
      show (match (List.replicate 8 ((65536 : Int), ([] : List Part)))[c]? with | some q => q.2.map (·.1) | none => []) = []
      rw [List.getElem?_replicate, if_pos hc8]
      rfl
    rw [this]
    rfl
  · show ((0 : Nat) : Int) + 0 + nS (List.replicate 8 ((65536 : Int), ([] : List Part))) + all.length = all.length
    have : nS (List.replicate 8 ((65536 : Int), ([] : List Part))) = 0 := rfl
    rw [this]; omega
  · rw [hq q h] at hx; cases hx
  · unfold wrk
    have : oT (newP (g0, per, 0)).2.2.1 = 0 := oT_empty fun q h => by rw [hq q h]
    rw [this]
    show 0 + ((if false = true then _ else 0) + 0 * per) + 0 ≤ _
    simp
    omega
theorem K16_s {all : List Come} {per last u : Int} (p1 : 1 ≤ per) (p2 : per ≤ 1000) (hlo : lineOk (g0, per, 0)) (hc : comesOk all 0 0 last) (hn : all.length ≤ 16) (hl : 0 ≤ last) (hu : last + 25600000 ≤ u) (hu1 : u ≤ 549755813888) :
    Lands (K16 (newP (g0, per, 0), all, u, ())) (fun r => r.2.2.1 = 0 ∧ RunOk all per r.1 r.2.1) := by
  have hR := newP_RI p1 p2 hc hn hl hlo
  rw [K16_eq]; unfold R16
  refine ends_opt (ends_of (K12_s (newP_ok hlo)) ?_)
  refine ends_bif (fun hb => by cases hb) (fun _ => ?_)
  refine ends_opt (ends_of (K31_s (fun c h => ⟨hR.lo c h, by have := hR.hi c h; omega⟩) hR.so (fun c h => hR.it c (hR.su c h)) (by show (0 : Int) ≤ u; omega) hu1 hn) ?_)
  refine ends_bif (fun hb => by cases hb) (fun _ => ?_)
  refine ends_opt' (J := fun x => x.1 = 0 ∧ RunOk all per x.2.2.1.1 x.2.2.1.2.2.1) (ends_iter
    (fun s => ∃ (p : Port) (cs : List Come) (gn : List Gone) (tt : Int), s = (((), ()), ((p, (cs, (gn, ()))), ((), ((), ())))) ∧ RI all per last p cs gn tt 0 ∧ (p.2.2.2.1 = false → empty p)) _
    (fun s => meas all s.2.1.1 s.2.1.2.1 s.2.1.2.2.1) ⟨_, _, _, 0, rfl, hR, fun _ q hq => ?_⟩ ?_ ?_) ?_
  · have : q ∈ List.replicate 8 ((65536 : Int), ([] : List Part)) := hq
    rw [(List.mem_replicate.1 this).2]
  · have := rz_le (newP (g0, per, 0))
    show meas all (newP (g0, per, 0)) all [] < _
    unfold meas
    simp only [List.length_nil]
    omega
  · rintro s ⟨p, cs, gn, tt, rfl, h, he⟩
    refine ends_opt (ends_of (K36_s h.ok he) ?_)
    have hso := h.so
    refine ends_opt' (J := fun x => x.1 = 0 ∧ ((x.2.1.2.1 = 4 ∧ cs = [] ∧ p.2.2.2.1 = false) ∨ (x.2.1.2.1 = 0 ∧ Ev p cs last tt x.2.1.1))) ?_ ?_
    · cases hcs : cs with
      | nil =>
        refine ends_bif (fun hb => ?_) (fun _ => ?_)
        · rw [iltF_eq] at hb; have := of_decide_eq_true hb; simp at this
        · cases hb : p.2.2.2.1 with
          | true => exact ends_some ⟨rfl, .inr ⟨rfl, h.tb hb, fun _ => Int.le_refl _, (fun c hc => by cases hc), (fun hf => by rw [hb] at hf; cases hf), .inr ⟨hb, rfl⟩⟩⟩
          | false => exact ends_some ⟨rfl, .inl ⟨rfl, rfl, rfl⟩⟩
      | cons x r =>
        rw [hcs] at hso
        have hx0 : (x :: r)[0]? = some x := rfl
        have hle : ∀ c ∈ x :: r, x.1 ≤ c.1 := fun c hc => by
          rcases List.mem_cons.1 hc with rfl | hc
          · exact Int.le_refl _
          · exact (List.pairwise_cons.1 hso).1 c hc
        have hxt := h.lo x (by rw [hcs]; simp)
        have hxl := h.hi x (by rw [hcs]; simp)
        refine ends_bif (fun _ => ?_) (fun hb => ?_)
        · cases hb : p.2.2.2.1 with
          | false =>
            refine ends_bif (fun _ => ?_) (fun hf => by cases hf)
            exact ends_opt (at_ends (n := 0) hx0 (ends_some ⟨rfl, .inr ⟨rfl, hxt, (fun hf => by rw [hb] at hf; cases hf), hle, fun _ => hxl, .inl ⟨x, r, rfl, rfl⟩⟩⟩))
          | true =>
            refine ends_bif (fun hf => by cases hf) (fun _ => ?_)
            refine ends_opt (at_ends (n := 0) hx0 ?_)
            refine ends_bif (fun hlt => ?_) (fun hlt => ?_)
            · rw [iltF_eq] at hlt
              have hlt := of_decide_eq_true hlt
              simp only [if_true] at hlt
              exact ends_opt (at_ends (n := 0) hx0 (ends_some ⟨rfl, .inr ⟨rfl, hxt, (fun _ => by show x.1 ≤ _; omega), hle, (fun hf => by rw [hb] at hf; cases hf), .inl ⟨x, r, rfl, rfl⟩⟩⟩))
            · rw [iltF_eq] at hlt
              have hlt := of_decide_eq_false hlt
              simp only [if_true] at hlt
              exact ends_some ⟨rfl, .inr ⟨rfl, h.tb hb, fun _ => Int.le_refl _, (fun c hc => by have := hle c hc; show p.2.2.2.2.2.2.1 ≤ c.1; omega), (fun hf => by rw [hb] at hf; cases hf), .inr ⟨hb, rfl⟩⟩⟩
        · rw [iltF_eq] at hb; have := of_decide_eq_false hb; simp only [List.length_cons] at this; omega
    · rintro ⟨j, ⟨t, e, y⟩, z⟩ ⟨h1, h2⟩
      simp only at h1 h2
      subst h1
      refine ends_bif (fun _ => ?_) (fun hf => by cases hf)
      rcases h2 with ⟨rfl, rfl, hb⟩ | ⟨rfl, ev⟩
      · -- over
        refine ends_bif (fun _ => ?_) (fun hf => by cases hf)
        have hem := he hb
        have hct := h.ct
        have hz0 : bz p = 0 := by unfold bz; simp [hb]
        have hn0 : nS p.2.2.1 = 0 := by
          have : ∀ l : List Queue, (∀ q ∈ l, q.2 = []) → nS l = 0 := by
            intro l
            induction l with
            | nil => intro _; rfl
            | cons q l ih =>
              intro hq
              have := ih fun x hx => hq x (by simp [hx])
              unfold nS at this ⊢
              rw [List.map_cons, List.sum_cons, this, hq q (by simp)]; rfl
          exact this _ hem
        refine ends_some (round_out ⟨rfl, hb, ?_, h.gs, fun g hg => ?_, h.gc, fun c hc8 => ?_⟩)
        · simp only [List.length_nil] at hct; show gn.length = all.length; omega
        · obtain ⟨a, a1, a2, a3⟩ := h.gc g hg
          have := hc.lo a a1
          have hsz := (h.it a a1).z0
          rw [a2] at hsz
          have : 0 ≤ g.2.2.2.2.1 * per := Int.mul_nonneg (by omega) (by omega)
          omega
        · have := h.sq c hc8
          have hcu : cur p = [] := by unfold cur; simp [hb]
          have hqi : qIt c p.2.2.1 = [] := by
            unfold qIt
            split
            · rename_i q hq; rw [hem q (List.mem_of_getElem? hq)]; rfl
            · rfl
          rw [hcu, hqi] at this
          simpa [cIt] using this
      · refine ends_bif (fun hf => by cases hf) (fun _ => ?_)
        have hln := h.len
        have h0 := h.later ev.l ev.b ev.c (fun hb => ⟨he hb, ev.n hb⟩) hln.1
        have htu : t ≤ u := by have := h0.soon.1; omega
        have hut : iltF u t = false := by rw [iltF_eq]; exact decide_eq_false (by omega)
        have t1 : t ≤ 549755813888 := by omega
        refine ends_opt' (J := fun x => x.1 = 0 ∧ ∃ (p' : Port) (cs' : List Come) (gn' : List Gone), x.2.2.1 = (p', (cs', (gn', ()))) ∧ RI all per last p' cs' gn' t 0 ∧ (p'.2.2.2.1 = false → empty p') ∧ meas all p' cs' gn' < meas all p cs gn) (ends_iter
          (fun s => ∃ (i : Nat) (p' : Port) (cs' : List Come) (gn' : List Gone), s = (((), ((i : Int), ())), ((p', (cs', (gn', ()))), ((), ()))) ∧ i ≤ 3 ∧
            ((i = 0 ∧ p' = p ∧ cs' = cs ∧ gn' = gn) ∨
             (i = 1 ∧ RI all per last p' cs' gn' t 0 ∧ ((p'.2.2.2.1 = false ∧ rz p' = 0 ∧ meas all p' cs' gn' < meas all p cs gn) ∨ (meas all p' cs' gn' ≤ meas all p cs gn ∧ ∃ x r, cs' = x :: r ∧ x.1 = t))) ∨
             (i = 2 ∧ ∃ ex, RI all per last p' cs' gn' t ex ∧ ((p'.2.2.2.1 = false ∧ rz p' = 0 ∧ meas all p' cs' gn' < meas all p cs gn) ∨ (48 * per ≤ ex ∧ meas all p' cs' gn' + 2 ≤ meas all p cs gn))) ∨
             (i = 3 ∧ RI all per last p' cs' gn' t 0 ∧ (p'.2.2.2.1 = false → empty p') ∧ meas all p' cs' gn' < meas all p cs gn))) _
          (fun s => 3 - s.1.2.1.toNat) ⟨0, p, cs, gn, rfl, by omega, .inl ⟨rfl, rfl, rfl, rfl⟩⟩ (by simp only; omega) ?_) ?_
        · rintro s ⟨i, p', cs', gn', rfl, hi, hst⟩
          rcases hst with ⟨rfl, rfl, rfl, rfl⟩ | ⟨rfl, h', hst⟩ | ⟨rfl, ex, h', hst⟩ | ⟨rfl, h', he', hm⟩
          · -- ending
            refine ends_bif (fun _ => ?_) (fun hf => by cases hf)
            refine ends_bif (fun _ => ?_) (fun hf => by cases hf)
            simp only [hut, cond_false]
            refine ends_bif (fun hb => ?_) (fun hb => ?_)
            · simp only [Bool.not_eq_true'] at hb
              refine ends_some (round_on ⟨1, _, _, _, rfl, by omega, .inr (.inl ⟨rfl, h0, .inr ⟨Nat.le_refl _, ?_⟩⟩)⟩ dec0)
              rcases ev.w with hw | ⟨hw, _⟩
              · exact hw
              · rw [hb] at hw; cases hw
            · simp only [Bool.not_eq_false'] at hb
              refine ends_bif (fun hne => ?_) (fun heq => ?_)
              · rw [ieqF_eq] at hne
                simp only [Bool.not_eq_true', beq_eq_false_iff_ne] at hne
                refine ends_some (round_on ⟨1, _, _, _, rfl, by omega, .inr (.inl ⟨rfl, h0, .inr ⟨Nat.le_refl _, ?_⟩⟩)⟩ dec0)
                rcases ev.w with hw | ⟨_, hw⟩
                · exact hw
                · exact absurd hw hne
              · rw [ieqF_eq] at heq
                simp only [Bool.not_eq_false', beq_iff_eq] at heq
                have hbz : bz p' = 1 := by unfold bz; simp [hb]
                have hct := h0.ct
                have hnn := nS_ge (qs := p'.2.2.1)
                rcases h0.end_ hb heq t1 with ⟨hk, hr'⟩ | ⟨hr0, p2, hk, hr', hb2⟩
                · refine ends_opt (ends_of hk ?_)
                  simp only [cond_true, List.length_cons, List.length_nil]
                  rw [appOk_s (by omega) (by omega)]
                  simp only [cond_true, opt_s]
                  refine ends_some (round_on ⟨1, _, _, _, rfl, by omega, .inr (.inl ⟨rfl, hr', .inl ⟨rfl, rfl, ?_⟩⟩)⟩ dec0)
                  unfold meas
                  rw [List.length_append]
                  simp only [List.length_cons, List.length_nil]
                  have : rz (doneP p' t) = 0 := rfl
                  rw [this]
                  omega
                · refine ends_opt (ends_of hk ?_)
                  simp only [cond_false, opt_s]
                  have hrz : rz p2 = 0 := by
                    rcases hr'.ok.s with hi | hs
                    · unfold rz; rw [if_pos hi.r]
                    · rw [hs.b] at hb2; cases hb2
                  have hrz1 : rz p' = 1 := by unfold rz; rw [if_neg hr0]
                  refine ends_some (round_on ⟨1, _, _, _, rfl, by omega, .inr (.inl ⟨rfl, hr', .inl ⟨hb2, hrz, ?_⟩⟩)⟩ dec0)
                  unfold meas
                  rw [hrz, hrz1]; omega
          · -- arriving
            refine ends_bif (fun _ => ?_) (fun hf => by cases hf)
            refine ends_bif (fun hf => by cases hf) (fun _ => ?_)
            refine ends_bif (fun _ => ?_) (fun hf => by cases hf)
            simp only [hut, cond_false]
            refine ends_opt' (J := fun x => x.1 = 0 ∧ ∃ (p2 : Port) (cs2 : List Come) (gn2 : List Gone) (ex : Int), x.2.2.1 = (p2, (cs2, (gn2, ()))) ∧ RI all per last p2 cs2 gn2 t ex ∧ ((p2.2.2.2.1 = false ∧ rz p2 = 0 ∧ meas all p2 cs2 gn2 < meas all p cs gn) ∨ (48 * per ≤ ex ∧ meas all p2 cs2 gn2 + 2 ≤ meas all p cs gn))) (ends_iter
              (fun s => ∃ (p2 : Port) (cs2 : List Come) (gn2 : List Gone) (ex : Int), s = (((), ()), ((p2, (cs2, (gn2, ()))), ((), ()))) ∧ RI all per last p2 cs2 gn2 t ex ∧ ((p2.2.2.2.1 = false ∧ rz p2 = 0 ∧ meas all p2 cs2 gn2 < meas all p cs gn) ∨ (48 * per ≤ ex ∧ meas all p2 cs2 gn2 + 2 ≤ meas all p cs gn) ∨ (meas all p2 cs2 gn2 ≤ meas all p cs gn ∧ ∃ x r, cs2 = x :: r ∧ x.1 = t))) _
              (fun s => s.2.1.2.1.length) ⟨p', cs', gn', 0, rfl, h', ?_⟩ ?_ ?_) ?_
            · rcases hst with hst | hst
              · exact .inl hst
              · exact .inr (.inr hst)
            · have := h'.len
              simp only
              omega
            · rintro s ⟨p2, cs2, gn2, ex, rfl, h2, hst2⟩
              have out : (¬ ∃ x r, cs2 = x :: r ∧ x.1 = t) → ((p2.2.2.2.1 = false ∧ rz p2 = 0 ∧ meas all p2 cs2 gn2 < meas all p cs gn) ∨ (48 * per ≤ ex ∧ meas all p2 cs2 gn2 + 2 ≤ meas all p cs gn)) := fun hno => by
                rcases hst2 with hs | hs | ⟨_, hs⟩
                · exact .inl hs
                · exact .inr hs
                · exact absurd hs hno
              cases hcs2 : cs2 with
              | nil =>
                refine ends_bif (fun hb => ?_) (fun _ => ?_)
                · rw [iltF_eq] at hb; have := of_decide_eq_true hb; simp at this
                · exact ends_some (round_out ⟨rfl, p2, [], gn2, ex, rfl, hcs2 ▸ h2, hcs2 ▸ out (by rw [hcs2]; rintro ⟨_, _, hf, _⟩; cases hf)⟩)
              | cons x r =>
                have hx0 : (x :: r)[0]? = some x := rfl
                refine ends_bif (fun _ => ?_) (fun hb => ?_)
                · refine ends_opt (at_ends (n := 0) hx0 ?_)
                  refine ends_bif (fun heq => ?_) (fun hne => ?_)
                  · rw [ieqF_eq] at heq
                    simp only [beq_iff_eq] at heq
                    refine ends_opt (at_ends (n := 0) hx0 ?_)
                    rw [hcs2] at h2 hst2
                    obtain ⟨p3, hk, h3, h4⟩ := h2.arr heq t1
                    refine ends_opt (ends_of hk ?_)
                    refine ends_opt (ends_of (cutI_from (x :: r) 1 (by simp)) ?_)
                    have hb3 : p3.2.2.2.1 = p2.2.2.2.1 := by rw [h4]
                    have hz3 : rz p3 = rz p2 := by unfold rz; rw [h4]
                    refine ends_some (round_on ⟨p3, r, gn2, 48 * per, rfl, h3, ?_⟩ (by simp))
                    have hm3 : meas all p3 r gn2 + 2 = meas all p2 (x :: r) gn2 := by
                      unfold meas; rw [hz3]; simp only [List.length_cons]; omega
                    rcases hst2 with ⟨s1, s2, s3⟩ | ⟨s1, s2⟩ | ⟨s1, s2⟩
                    · exact .inl ⟨by rw [hb3]; exact s1, by rw [hz3]; exact s2, by omega⟩
                    · exact .inr (.inl ⟨Int.le_refl _, by omega⟩)
                    · exact .inr (.inl ⟨Int.le_refl _, by omega⟩)
                  · rw [ieqF_eq] at hne
                    simp only [beq_eq_false_iff_ne] at hne
                    exact ends_some (round_out ⟨rfl, p2, x :: r, gn2, ex, rfl, hcs2 ▸ h2, hcs2 ▸ out (by rw [hcs2]; rintro ⟨_, _, hf, h5⟩; cases hf; exact hne h5)⟩)
                · rw [iltF_eq] at hb; have := of_decide_eq_false hb; simp only [List.length_cons] at this; omega
            · rintro ⟨j, y, w, z⟩ ⟨hj, p2, cs2, gn2, ex, hw, h2, hst2⟩
              simp only at hw
              subst hw
              exact ends_some (round_on ⟨2, p2, cs2, gn2, rfl, by omega, .inr (.inr (.inl ⟨rfl, ex, h2, hst2⟩))⟩ dec1)
          · -- choosing
            refine ends_bif (fun _ => ?_) (fun hf => by cases hf)
            refine ends_bif (fun hf => by cases hf) (fun _ => ?_)
            refine ends_bif (fun hf => by cases hf) (fun _ => ?_)
            refine ends_bif (fun _ => ?_) (fun hf => by cases hf)
            simp only [hut, cond_false]
            obtain ⟨p2, hk, h2, he2, hz1, hz2⟩ := h'.cho (fun hb => by
              rcases hst with ⟨hb', _⟩ | ⟨hx, _⟩
              · rw [hb] at hb'; cases hb'
              · exact hx) t1
            refine ends_opt (ends_of hk ?_)
            refine ends_some (round_on ⟨3, p2, cs', gn', rfl, by omega, .inr (.inr (.inr ⟨rfl, h2, he2, ?_⟩))⟩ dec2)
            unfold meas at hst ⊢
            rcases hst with ⟨hb', hz', hm⟩ | ⟨_, hm⟩
            · rw [hz2 hb']; omega
            · omega
          · refine ends_bif (fun hf => by cases hf) (fun _ => ?_)
            exact ends_some (round_out ⟨rfl, p', cs', gn', rfl, h', he', hm⟩)
        · rintro ⟨j, y, w, z⟩ ⟨hj, p2, cs2, gn2, hw, h2, he2, hm⟩
          simp only at hj hw
          subst hj; subst hw
          refine ends_bif (fun _ => ?_) (fun hf => by cases hf)
          exact ends_some (round_on ⟨p2, cs2, gn2, t, rfl, h2, he2⟩ hm)
  · rintro ⟨j, y, ⟨p', w⟩, z⟩ ⟨hj, hr⟩
    simp only at hj hr
    subst hj
    exact ends_some ⟨rfl, hr.b, hr.len, hr.gs, hr.g0, hr.gc, hr.sq⟩
end Go.Proofs.Ytfpbgiaiifcnlaa.pg
/- Functions of the program, readable: what the evaluator makes of each. -/
noncomputable section
namespace Go.Proofs.Ytfpbgiaiifcnlaa.pg
open Go Go.Fz Go.Fz.Sy
set_option maxRecDepth 100000
set_option maxHeartbeats 0
set_option linter.unusedVariables false
/-! isochron/isochronlaw38.PortOrders -/
abbrev A4 : List VT := [⟨false, (.list S88)⟩, ⟨false, (.int .u16)⟩]
abbrev B4 : List VT := [⟨false, .bool⟩]
def pl4 : Plan := planA [⟨S144, flatTy S144, []⟩, ⟨S143, flatTy S143, []⟩, ⟨S134, flatTy S134, []⟩, ⟨S133, flatTy S133, []⟩, ⟨S91, flatTy S91, []⟩, ⟨S90, flatTy S90, []⟩, ⟨S88, flatTy S88, []⟩, ⟨S87, flatTy S87, []⟩, ⟨S79, flatTy S79, []⟩, ⟨S64, flatTy S64, []⟩, ⟨S61, flatTy S61, []⟩, ⟨S59, flatTy S59, []⟩, ⟨S58, flatTy S58, []⟩, ⟨S42, flatTy S42, []⟩, ⟨S35, flatTy S35, []⟩, ⟨S34, flatTy S34, []⟩, ⟨S43, flatTy S43, []⟩, ⟨S33, flatTy S33, []⟩, ⟨S32, flatTy S32, []⟩, ⟨S31, flatTy S31, []⟩, ⟨S30, flatTy S30, []⟩, ⟨S26, flatTy S26, []⟩, ⟨S25, flatTy S25, []⟩, ⟨S24, flatTy S24, []⟩, ⟨S23, flatTy S23, []⟩, ⟨S65, flatTy S65, []⟩, ⟨S14, flatTy S14, []⟩, ⟨S13, flatTy S13, []⟩, ⟨S8, flatTy S8, []⟩, ⟨S7, flatTy S7, []⟩] [] []
def R4 (G7 : (Unit) → Option (Bool × Unit)) (G13 : ((List D88) × Unit) → Option ((List D61) × Int × Unit)) (G14 : (Int × Unit) → Option (D26 × Unit)) (G15 : (Int × Unit) → Option ((List Int) × Unit)) (G8 : (D26 × (List Int) × Unit) → Option (D35 × Int × Unit)) (G16 : (D35 × (List D61) × Int × Unit) → Option (D35 × (List D59) × Int × Unit)) (a0 : (List D88)) (a1 : Int) : Option (Bool × Unit) :=
  opt (G7 (())) fun x0 =>
  bif !x0.1 then some (false, ())
  else opt (G13 ((a0, ()))) fun x1 =>
    opt (G14 (((wrF .i64 ((1 + (Int.tmod (wrF .i64 (a1)) 1000)))), ()))) fun x2 =>
    opt (G15 ((65536, ()))) fun x3 =>
    opt (G8 ((x2.1, (x3.1, ())))) fun x4 =>
    opt (G16 ((x4.1, (x1.1, ((wrF .i64 ((x1.2.1 + 100000000))), ()))))) fun x5 =>
    opt (bif !(ieqF (x4.2.1) (0)) then some ((0 + 1), ((false, ()), ()))
      else bif !(ieqF (x5.2.2.1) (0)) then some ((0 + 1), ((false, ()), ()))
        else bif !(ieqF ((((x5.2.1).length : Nat) : Int)) ((((x1.1).length : Nat) : Int))) then some ((0 + 1), ((false, ()), ()))
          else bif x5.1.2.2.2.1 then some ((0 + 1), ((false, ()), ()))
            else some (0, ((false, ()), ()))) fun x6 =>
    bif (Nat.beq x6.1 0) then opt (iterK (fun s7 : ((Bool × (Int × (Int × Unit))) × ((List (Int × Int)) × Unit)) =>
        bif (iltF (s7.1.2.2.1) ((((x5.2.1).length : Nat) : Int))) then opt (atI (x5.2.1) (s7.1.2.2.1)) fun x8 =>
          opt (bif (mpH (s7.2.1) (x8.2.2.2.1)) then bif !(iltF ((mpD (s7.2.1) (x8.2.2.2.1) (0))) (x8.2.2.1)) then some ((0 + 1), ((false, ()), ()))
              else some (0, ((s7.1.1, ()), ()))
            else some (0, ((s7.1.1, ()), ()))) fun x9 =>
          bif (Nat.beq x9.1 0) then opt (bif !(iltF (s7.1.2.1) (x8.1)) then some ((0 + 1), ((false, ()), ()))
              else bif !(iltF (x8.2.2.1) ((((x1.1).length : Nat) : Int))) then some ((0 + 1), ((false, ()), ()))
                else bif (iltF (x8.2.2.1) (0)) then some ((0 + 1), ((false, ()), ()))
                  else opt (atI (x1.1) (x8.2.2.1)) fun x10 =>
                    bif !((ieqF (x10.2.1) (x8.2.1)) && ((ieqF (x10.2.2.1) (x8.2.2.1)) && ((ieqF (x10.2.2.2.1) (x8.2.2.2.1)) && ((ieqF (x10.2.2.2.2.1) (x8.2.2.2.2.1)) && ((ieqF (x10.2.2.2.2.2) (x8.2.2.2.2.2)) && true))))) then some ((0 + 1), ((false, ()), ()))
                    else opt (atI (x1.1) (x8.2.2.1)) fun x11 =>
                      bif (iltF (x8.1) ((wrF .i64 ((x11.1 + (wrF .i64 ((x8.2.2.2.2.1 * x4.1.1.2.1)))))))) then some ((0 + 1), ((false, ()), ()))
                      else some (0, ((x9.2.1.1, ()), ()))) fun x12 =>
            bif (Nat.beq x12.1 0) then some (.inr ((x12.2.1.1, (x8.1, ((wrF .i64 ((s7.1.2.2.1 + 1))), ()))), ((mpP (s7.2.1) (x8.2.2.2.1) (x8.2.2.1)), ())))
            else some (.inl ((0 + 1), ((x12.2.1.1, (s7.1.2.1, (s7.1.2.2.1, ()))), ((mpP (s7.2.1) (x8.2.2.2.1) (x8.2.2.1)), ()))))
          else some (.inl ((0 + 1), ((x9.2.1.1, (s7.1.2.1, (s7.1.2.2.1, ()))), (s7.2.1, ()))))
        else some (.inl (0, ((s7.1.1, (s7.1.2.1, (s7.1.2.2.1, ()))), (s7.2.1, ()))))) bigN ((x6.2.1.1, (0, (0, ()))), ([], ()))) fun x13 =>
      bif (Nat.beq x13.1 0) then some (true, ())
      else some (x13.2.1.1, ())
    else some (x6.2.1.1, ())
theorem E4 (G7 : (Unit) → Option (Bool × Unit)) (G13 : ((List D88) × Unit) → Option ((List D61) × Int × Unit)) (G14 : (Int × Unit) → Option (D26 × Unit)) (G15 : (Int × Unit) → Option ((List Int) × Unit)) (G8 : (D26 × (List Int) × Unit) → Option (D35 × Int × Unit)) (G16 : (D35 × (List D61) × Int × Unit) → Option (D35 × (List D59) × Int × Unit)) (a0 : (List D88)) (a1 : Int) : sF Try.prog [(7, ⟨A7, B7, G7⟩), (13, ⟨A13, B13, G13⟩), (14, ⟨A14, B14, G14⟩), (15, ⟨A15, B15, G15⟩), (8, ⟨A8, B8, G8⟩), (16, ⟨A16, B16, G16⟩)] pl4 (autoJ []) 30 4 A4 B4 (a0, a1, ()) = R4 G7 G13 G14 G15 G8 G16 a0 a1 := by kernel_rfl
def K4 : ((List D88) × Int × Unit) → Option (Bool × Unit) := sF Try.prog [(7, ⟨A7, B7, K7⟩), (13, ⟨A13, B13, K13⟩), (14, ⟨A14, B14, K14⟩), (15, ⟨A15, B15, K15⟩), (8, ⟨A8, B8, K8⟩), (16, ⟨A16, B16, K16⟩)] pl4 (autoJ []) 30 4 A4 B4
theorem K4_ok : Con.Ok Try.prog 4 ⟨A4, B4, K4⟩ := sF_ok (tblOk_cons K7_ok (tblOk_cons K13_ok (tblOk_cons K14_ok (tblOk_cons K15_ok (tblOk_cons K8_ok (tblOk_cons K16_ok tblOk_nil)))))) special (by kernel_rfl)
theorem K4_eq (a0 : (List D88)) (a1 : Int) : K4 (a0, a1, ()) = R4 K7 K13 K14 K15 K8 K16 a0 a1 := E4 K7 K13 K14 K15 K8 K16 a0 a1
end Go.Proofs.Ytfpbgiaiifcnlaa.pg
/- PortOrders, plain: the law's function returns true. -/
namespace Go.Proofs.Ytfpbgiaiifcnlaa.pg
open Go Go.Fz Go.Fz.Sy
set_option linter.unusedVariables false
set_option linter.unusedSimpArgs false
theorem iltt {a b : Int} (h : a < b) : iltF a b = true := by rw [iltF_eq]; exact decide_eq_true h
theorem iltf {a b : Int} (h : ¬ a < b) : iltF a b = false := by rw [iltF_eq]; exact decide_eq_false h
theorem ieqt {a b : Int} (h : a = b) : ieqF a b = true := by rw [ieqF_eq, h]; simp
theorem K14_s (n : Int) : K14 (n, ()) = some ((g0, n, 0), ()) := by rw [K14_eq]; rfl
theorem mpD_mem {α : Type} {l : List (Int × α)} {n : Int} {z : α} (h : mpH l n = true) : (n, mpD l n z) ∈ l := by
  induction l with
  | nil => cases h
  | cons p r ih =>
    simp only [mpH, mpD] at h ⊢
    cases hp : ieqF p.1 n with
    | true =>
      rw [ieqF_eq] at hp
      have : p.1 = n := by simpa using hp
      simp [← this]
    | false =>
      rw [hp] at h
      simp only [cond_false] at h ⊢
      exact List.mem_cons_of_mem _ (ih h)
theorem mpP_mem {α : Type} {l : List (Int × α)} {n : Int} {x : α} {y : Int × α} (h : y ∈ mpP l n x) : y ∈ l ∨ y = (n, x) := by
  induction l with
  | nil => simp [mpP] at h; exact .inr h
  | cons p r ih =>
    simp only [mpP] at h
    cases hp : ieqF p.1 n with
    | true =>
      rw [hp, cond_true] at h
      rcases List.mem_cons.1 h with h | h
      · exact .inr h
      · exact .inl (List.mem_cons_of_mem _ h)
    | false =>
      rw [hp, cond_false] at h
      rcases List.mem_cons.1 h with h | h
      · exact .inl (by simp [h])
      · rcases ih h with h | h
        · exact .inl (List.mem_cons_of_mem _ h)
        · exact .inr h
/-- Frames of a class leave in order. -/
theorem in_order {all : List Come} {per : Int} {p : Port} {gn : List Gone} {last : Int} (hc : comesOk all 0 0 last) (h : RunOk all per p gn) {i j : Nat} {a b : Gone} (hi : gn[i]? = some a) (hj : gn[j]? = some b) (hij : i < j) (hcl : a.2.2.2.1 = b.2.2.2.1) : a.2.2.1 < b.2.2.1 := by
  obtain ⟨x, x1, x2, _⟩ := h.gc a (List.mem_of_getElem? hi)
  obtain ⟨k, hk⟩ := List.getElem?_of_mem x1
  have hit := (hc.it k x hk).1
  rw [x2] at hit
  obtain ⟨c, hcc⟩ := Int.eq_ofNat_of_zero_le hit.c0
  have hc8 : c < 8 := by have := hit.c1; omega
  have hall : (all.map (·.2)).Pairwise fun u v => u.2.1 < v.2.1 := by
    rw [List.pairwise_iff_getElem]
    intro m n hm hn hmn
    simp only [List.length_map] at hm hn
    have h1 := (hc.it m all[m] (List.getElem?_eq_getElem hm)).2
    have h2 := (hc.it n all[n] (List.getElem?_eq_getElem hn)).2
    simp only [List.getElem_map]
    omega
  have h1 : (cIt c all).Pairwise fun u v => u.2.1 < v.2.1 := hall.filter _
  rw [← h.sq c hc8] at h1
  unfold gIt at h1
  rw [List.pairwise_filter] at h1
  obtain ⟨i1, i2⟩ := List.getElem?_eq_some_iff.1 hi
  obtain ⟨j1, j2⟩ := List.getElem?_eq_some_iff.1 hj
  have := (List.pairwise_iff_getElem.1 h1) i j (by simpa using i1) (by simpa using j1) hij
  simp only [List.getElem_map, i2, j2] at this
  exact this (by unfold isC; rw [hcc]; simp) (by unfold isC; rw [← hcl, hcc]; simp)
theorem law4 {l : List Frame} {per : Int} (hl : ∀ x ∈ l, frOk x) (p0 : 0 ≤ per) (p1 : per ≤ 65535) : K4 (l, per, ()) = some (true, ()) := by
  refine ends_eq ?_
  rw [K4_eq]; unfold R4
  refine ends_opt (ends_of K7_s ?_)
  refine ends_bif (fun hf => by cases hf) (fun _ => ?_)
  obtain ⟨cs, last, k13, hc, hlen, l0, l1⟩ := K13_s hl
  refine ends_opt (ends_of k13 ?_)
  have e0 : wrF .i64 per = per := wr64 (by omega) (by omega)
  have hm0 : 0 ≤ Int.tmod per 1000 := Int.tmod_nonneg _ p0
  have hm1 : Int.tmod per 1000 < 1000 := Int.tmod_lt_of_pos _ (by omega)
  have e1 : wrF .i64 (1 + Int.tmod per 1000) = 1 + Int.tmod per 1000 := wr64 (by omega) (by omega)
  rw [e0, e1]
  generalize hn : 1 + Int.tmod per 1000 = n
  have n1 : 1 ≤ n := by omega
  have n2 : n ≤ 1000 := by omega
  have hlo : lineOk (g0, n, 0) := ⟨g0_ok, n1, n2, (by show (-1000 : Int) ≤ 0; omega), (by show (0 : Int) ≤ 1000; omega)⟩
  have hn16 : cs.length ≤ 16 := by omega
  refine ends_opt (ends_of (K14_s n) ?_)
  refine ends_opt (ends_of K15_s ?_)
  refine ends_opt (ends_of (K8_s hlo) ?_)
  have e2 : wrF .i64 (last + 100000000) = last + 100000000 := wr64 (by omega) (by omega)
  simp only [e2]
  obtain ⟨⟨p', gn, e, u⟩, k16, he, hR⟩ := K16_s (u := last + 100000000) n1 n2 hlo hc hn16 l0 (by omega) (by omega)
  simp only at he hR
  subst he
  refine ends_opt (ends_of k16 ?_)
  refine ends_opt (Q := _) (ends_of (a := (0, ((false, ()), ()))) (by
    simp only [show ieqF (0 : Int) 0 = true from rfl, Bool.not_true, cond_false, hR.len, ieqt rfl, hR.b]) ?_)
  refine ends_bif (fun _ => ?_) (fun hf => by cases hf)
  have hgl : gn.length ≤ 16 := by rw [hR.len]; exact hn16
  -- facts of a frame that is gone
  have fact : ∀ (i : Nat) (g : Gone), gn[i]? = some g → ∃ (k : Nat) (a : Come), cs[k]? = some a ∧ a.2 = g.2 ∧ g.2.2.1 = (k : Int) ∧ a.1 + g.2.2.2.2.1 * n ≤ g.1 ∧ 0 ≤ a.1 ∧ a.1 ≤ last ∧ itemOk g.2 := fun i g hg => by
    obtain ⟨a, a1, a2, a3⟩ := hR.gc g (List.mem_of_getElem? hg)
    obtain ⟨k, hk⟩ := List.getElem?_of_mem a1
    obtain ⟨q1, q2⟩ := hc.it k a hk
    rw [a2] at q1
    refine ⟨k, a, hk, a2, ?_, a3, hc.lo a a1, hc.hi a a1, q1⟩
    rw [← a2, q2]; simp
  refine ends_opt' (J := fun x => x.1 = 0) (ends_iter
    (fun s => ∃ (at_ : Int) (i : Nat) (seen : List (Int × Int)), s = ((false, (at_, ((i : Int), ()))), (seen, ())) ∧ i ≤ gn.length ∧ (∀ (j : Nat) g, i ≤ j → gn[j]? = some g → at_ < g.1) ∧ ∀ y ∈ seen, ∃ (j : Nat) (g : Gone), j < i ∧ gn[j]? = some g ∧ g.2.2.2.1 = y.1 ∧ g.2.2.1 = y.2) _
    (fun s => 16 - s.1.2.2.1.toNat) ⟨0, 0, [], rfl, Nat.zero_le _, fun j g _ hg => ?_, fun y hy => (by cases hy)⟩ (by simp only; omega) ?_) ?_
  · obtain ⟨k, a, _, _, _, a3, a4, _, a5⟩ := fact j g hg
    have : 0 < g.2.2.2.2.1 * n := Int.mul_pos (by have := a5.z0; omega) (by omega)
    omega
  · rintro s ⟨at_, i, seen, rfl, hi, hat, hse⟩
    refine ends_bif (fun hlt => ?_) (fun _ => ends_some (round_out rfl))
    rw [iltF_eq] at hlt
    have hlt := of_decide_eq_true hlt
    simp only at hlt
    have hx : gn[i]? = some (gn[i]'(by omega)) := List.getElem?_eq_getElem _
    generalize gn[i]'(by omega) = g at hx
    refine ends_opt (at_ends hx ?_)
    obtain ⟨k, a, hk, a2, a3, a4, a5, a6, hit⟩ := fact i g hx
    have hga := hat i g (Nat.le_refl _) hx
    have hkl : k < cs.length := (List.getElem?_eq_some_iff.1 hk).1
    refine ends_opt (Q := Round _ _ _ _) (ends_of (a := (0, ((false, ()), ()))) ?_ ?_)
    · cases hh : mpH seen g.2.2.2.1 with
      | false => rfl
      | true =>
        have hmem := mpD_mem (z := (0 : Int)) hh
        obtain ⟨j, b, hj, hb, hb1, hb2⟩ := hse _ hmem
        have hord := in_order hc hR hb hx hj hb1
        simp only at hb2
        simp only [cond_true]
        rw [← hb2, iltt hord]
        rfl
    · refine ends_bif (fun _ => ?_) (fun hf => by cases hf)
      have hsz : g.2.2.2.2.1 * n ≤ 1542000 := by
        have h1 : g.2.2.2.2.1 * n ≤ 1542 * n := Int.mul_le_mul_of_nonneg_right hit.z1 (by omega)
        omega
      have hs0 : 0 ≤ g.2.2.2.2.1 * n := Int.mul_nonneg (by have := hit.z0; omega) (by omega)
      have e3 : wrF .i64 (g.2.2.2.2.1 * n) = g.2.2.2.2.1 * n := wr64 (by omega) (by omega)
      have e5 : wrF .i64 (a.1 + g.2.2.2.2.1 * n) = a.1 + g.2.2.2.2.1 * n := wr64 (by omega) (by omega)
      have e4 : wrF .i64 ((i : Int) + 1) = ((i + 1 : Nat) : Int) := by rw [wr64] <;> omega
      refine ends_opt (Q := Round _ _ _ _) (ends_of (a := (0, ((false, ()), ()))) ?_ ?_)
      · have hcmp : ((ieqF (a.2.1) (g.2.1)) && ((ieqF (a.2.2.1) (g.2.2.1)) && ((ieqF (a.2.2.2.1) (g.2.2.2.1)) && ((ieqF (a.2.2.2.2.1) (g.2.2.2.2.1)) && ((ieqF (a.2.2.2.2.2) (g.2.2.2.2.2)) && true))))) = true := by
          rw [a2]; simp [ieqF_eq]
        have hwn : (newP (g0, n, 0)).1.2.1 = n := rfl
        simp only [iltt hga, Bool.not_true, cond_false, a3, iltt (show (k : Int) < ((cs.length : Nat) : Int) by omega), iltf (show ¬ (k : Int) < 0 by omega), atI_get hk, opt_s]
        rw [a3] at hcmp
        simp only [hcmp, Bool.not_true, cond_false, hwn, e3, e5, iltf (show ¬ g.1 < a.1 + g.2.2.2.2.1 * n by omega)]
      · refine ends_bif (fun _ => ?_) (fun hf => by cases hf)
        simp only [e4]
        refine ends_some (round_on ⟨g.1, i + 1, _, rfl, by omega, fun j g2 hj hg2 => ?_, fun y hy => ?_⟩ (by simp only [Int.toNat_natCast]; omega))
        · obtain ⟨i1, i2⟩ := List.getElem?_eq_some_iff.1 hx
          obtain ⟨j1, j2⟩ := List.getElem?_eq_some_iff.1 hg2
          have := (List.pairwise_iff_getElem.1 hR.gs) i j i1 j1 (by omega)
          rw [i2, j2] at this
          exact this
        · rcases mpP_mem hy with hy | rfl
          · obtain ⟨j, b, hj, hb, hb1, hb2⟩ := hse y hy
            exact ⟨j, b, by omega, hb, hb1, hb2⟩
          · exact ⟨i, g, by omega, hx, rfl, rfl⟩
  · rintro ⟨j, y⟩ hj
    simp only at hj
    subst hj
    exact ends_some rfl
end Go.Proofs.Ytfpbgiaiifcnlaa.pg
