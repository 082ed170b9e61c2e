/- Plain laws of sums and checks. -/
import Derived.Test.YtddhglcmfoopnaaFnS
namespace Go.Proofs.Ytddhglcmfoopnaa.queue
open Go Go.En
set_option linter.unusedVariables false

def sumZ (f : Pt → Int) : List Pt → Int
  | [] => 0
  | p :: l => f p + sumZ f l
theorem sumZ_append (f : Pt → Int) : ∀ l m : List Pt, sumZ f (l ++ m) = sumZ f l + sumZ f m
  | [], m => by simp [sumZ]
  | p :: l, m => by simp only [List.cons_append, sumZ, sumZ_append f l m]; omega
theorem sumW_eq (f : Pt → Int) : ∀ (l : List Pt) (a : Int), inR a → sumW f l a = W (a + sumZ f l)
  | [], a, h => by
    show a = _
    simp only [sumZ, Int.add_zero]; exact (W_id h).symm
  | p :: l, a, h => by
    show sumW f l (W (a + f p)) = _
    rw [sumW_eq f l _ (W_in _)]
    have h1 := W_spec (a + f p)
    have h2 := W_spec (W (a + f p) + sumZ f l)
    have h3 := W_spec (a + sumZ f (p :: l))
    simp only [sumZ] at h3 ⊢
    omega
theorem sum0 (f : Pt → Int) (l : List Pt) : sumW f l 0 = W (sumZ f l) := by
  rw [sumW_eq f l 0 (by unfold inR; omega)]; simp
theorem part_bounds {p : Pt} (h : partC p = true) : 0 ≤ p.left ∧ p.left ≤ 1542 := by
  have hw := W_spec (p.it.size - 40)
  unfold W at hw
  rw [part_eq] at h
  unfold partR itemR at h
  cases hr : p.rest with
  | false =>
    simp only [hr, cond_false, Bool.and_eq_true, decide_eq_true_eq, beq_iff_eq] at h
    omega
  | true =>
    simp only [hr, cond_true, Bool.and_eq_true, decide_eq_true_eq] at h
    omega
theorem good_all : ∀ {l : List Pt} {i : Nat}, anyBad l i = false → ∀ p ∈ l, partC p = true
  | [], _, _, p, h => by cases h
  | q :: l, i, hb, p, h => by
    simp only [anyBad, Bool.or_eq_false_iff, badC] at hb
    rcases List.mem_cons.1 h with rfl | h
    · simpa using hb.1.1
    · exact good_all hb.2 p h
theorem left_bounds : ∀ {l : List Pt}, (∀ p ∈ l, partC p = true) → 0 ≤ sumZ (·.left) l ∧ sumZ (·.left) l ≤ 1542 * l.length ∧ 0 ≤ sumZ freshL l ∧ sumZ freshL l ≤ sumZ (·.left) l
  | [], _ => by simp [sumZ]
  | p :: l, h => by
    have h1 := part_bounds (h p (by simp))
    have h2 := left_bounds (l := l) fun q hq => h q (by simp [hq])
    have h3 : 0 ≤ freshL p ∧ freshL p ≤ p.left := by unfold freshL; cases p.rest <;> simp <;> omega
    simp only [sumZ, List.length_cons]
    push_cast
    omega
theorem anyBad_up : ∀ {l : List Pt} {i j : Nat}, j ≤ i → anyBad l i = false → anyBad l j = false
  | [], _, _, _, _ => rfl
  | p :: l, i, j, hij, h => by
    simp only [anyBad, Bool.or_eq_false_iff] at h ⊢
    refine ⟨?_, anyBad_up (by omega) h.2⟩
    have h1 := h.1
    unfold badC at h1 ⊢
    simp only [Bool.or_eq_false_iff] at h1 ⊢
    refine ⟨h1.1, ?_⟩
    cases hr : p.rest with
    | false => rfl
    | true =>
      have := h1.2
      simp only [hr, Bool.true_and, decide_eq_false_iff_not] at this ⊢
      omega
theorem anyBad_pos : ∀ {l : List Pt} {i j : Nat}, 0 < i → 0 < j → anyBad l i = anyBad l j
  | [], _, _, _, _ => rfl
  | p :: l, i, j, hi, hj => by
    simp only [anyBad, badC]
    have h1 : decide ((i : Int) > 0) = true := decide_eq_true (by omega)
    have h2 : decide ((j : Int) > 0) = true := decide_eq_true (by omega)
    rw [h1, h2, anyBad_pos (l := l) (i := i + 1) (j := j + 1) (by omega) (by omega)]
theorem anyBad_snoc : ∀ (l : List Pt) (p : Pt) (i : Nat), anyBad (l ++ [p]) i = (anyBad l i || badC p (i + l.length))
  | [], p, i => by simp [anyBad]
  | q :: l, p, i => by
    simp only [List.cons_append, anyBad, anyBad_snoc l p (i + 1), List.length_cons, Bool.or_assoc]
    congr 3; omega
theorem check_iff {cap : Int} {l : List Pt} (hl : l.length ≤ 1000) : checkS cap l = true ↔ 0 ≤ cap ∧ cap ≤ 65536 ∧ anyBad l 0 = false ∧ sumZ freshL l ≤ cap := by
  unfold checkS
  simp only [within, Bool.and_eq_true, Bool.not_eq_true', Bool.or_eq_false_iff, decide_eq_false_iff_not, decide_eq_true_eq]
  constructor
  · rintro ⟨⟨h1, h2⟩, h3, h4⟩
    have := left_bounds (good_all h3)
    rw [sum0, W_id (by unfold inR; omega)] at h4
    exact ⟨h1, h2, h3, by omega⟩
  · rintro ⟨h1, h2, h3, h4⟩
    have := left_bounds (good_all h3)
    rw [sum0, W_id (by unfold inR; omega)]
    exact ⟨⟨h1, h2⟩, h3, by omega⟩
theorem part_whole (i : It) : partC (wholeP i) = itemOk i := by
  have : eqPt (wholeP i) (wholeP i) = true := eqPt_refl _
  unfold partC
  show (itemOk i && (eqPt (wholeP i) (wholeP i) || _)) = itemOk i
  rw [this]; simp
theorem check_push {cap : Int} {m : List Pt} {i : It} (hm : m.length ≤ 60) (h1 : checkS cap m = true) (h2 : itemOk i = true) (h3 : overS cap m i = false) : checkS cap (m ++ [wholeP i]) = true := by
  obtain ⟨a1, a2, a3, a4⟩ := (check_iff (by omega)).1 h1
  have b := left_bounds (good_all a3)
  have hp := part_bounds ((part_whole i).trans h2)
  refine (check_iff (by simp; omega)).2 ⟨a1, a2, ?_, ?_⟩
  · rw [anyBad_snoc, a3]
    unfold badC
    rw [part_whole, h2]
    rfl
  · unfold overS at h3
    simp only [decide_eq_false_iff_not] at h3
    change 0 ≤ i.size ∧ i.size ≤ 1542 at hp
    rw [sum0, W_id (by unfold inR; omega)] at h3
    change ¬ W (sumZ (·.left) m + i.size) > cap at h3
    rw [W_id (by unfold inR; omega)] at h3
    rw [sumZ_append]
    have : sumZ freshL [wholeP i] = i.size := by simp [sumZ, freshL, wholeP]
    omega
theorem check_pop {cap : Int} {m : List Pt} {q : Pt} (hm : (q :: m).length ≤ 1000) (h1 : checkS cap (q :: m) = true) : checkS cap m = true := by
  obtain ⟨a1, a2, a3, a4⟩ := (check_iff hm).1 h1
  have a5 := a3
  simp only [anyBad, Bool.or_eq_false_iff] at a5
  have b := part_bounds (good_all a3 q (by simp))
  have h3 : 0 ≤ freshL q := by unfold freshL; cases q.rest <;> simp <;> omega
  simp only [sumZ] at a4
  exact (check_iff (by simp at hm; omega)).2 ⟨a1, a2, anyBad_up (by omega) a5.2, by omega⟩
theorem check_ret {cap : Int} {m : List Pt} {x : Pt} (hm : m.length ≤ 60) (h1 : checkS cap m = true) (h2 : partC x = true) (h3 : x.rest = true) (h4 : restS m = false) : checkS cap (x :: m) = true := by
  obtain ⟨a1, a2, a3, a4⟩ := (check_iff (by omega)).1 h1
  refine (check_iff (by simp; omega)).2 ⟨a1, a2, ?_, ?_⟩
  · simp only [anyBad, Bool.or_eq_false_iff]
    refine ⟨by simp [badC, h2], ?_⟩
    cases m with
    | nil => rfl
    | cons p m =>
      simp only [anyBad, Bool.or_eq_false_iff] at a3 ⊢
      refine ⟨?_, by rw [anyBad_pos (j := 1) (by omega) (by omega)]; exact a3.2⟩
      have := a3.1
      unfold badC at this ⊢
      simp only [Bool.or_eq_false_iff] at this ⊢
      change p.rest = false at h4
      exact ⟨this.1, by rw [h4]; rfl⟩
  · simp only [sumZ, freshL, h3, cond_true]; omega
abbrev leftW (l : List Pt) : Int := sumW (·.left) l 0
theorem left_push (m : List Pt) (i : It) : leftW (m ++ [wholeP i]) = IntKind.i64.wrap (leftW m + i.size) := by
  show sumW _ _ _ = _
  unfold leftW sumW
  rw [List.foldl_append]; rfl
theorem left_pop (m : List Pt) (q : Pt) : leftW m = IntKind.i64.wrap (leftW (q :: m) - q.left) := by
  show leftW m = W (leftW (q :: m) - q.left)
  unfold leftW
  rw [sum0, sum0]
  have h1 := W_spec (sumZ (·.left) m)
  have h2 := W_spec (sumZ (·.left) (q :: m))
  have h3 := W_spec (W (sumZ (·.left) (q :: m)) - q.left)
  simp only [sumZ] at h2 h3 ⊢
  omega
theorem left_ret (m : List Pt) (q : Pt) : leftW (q :: m) = IntKind.i64.wrap (leftW m + q.left) := by
  show leftW (q :: m) = W (leftW m + q.left)
  unfold leftW
  rw [sum0, sum0]
  have h1 := W_spec (sumZ (·.left) m)
  have h2 := W_spec (sumZ (·.left) (q :: m))
  have h3 := W_spec (W (sumZ (·.left) m) + q.left)
  simp only [sumZ] at h2 ⊢
  omega
/-- x[1:] where the capacity is not known. -/
theorem slc_1o {off n : Nat} (h0 : 0 < n) (hm : n ≤ 1000) : doSlice Try.prog 22 (.slice (some ⟨0, off, none⟩) n oc7) (some (.int .i64 1)) none none = some (.slice (some ⟨0, off + 7, none⟩) (n - 1) oc7) := by
  obtain ⟨inf, h1, h2⟩ := i28
  have hb : bnd (.int .i64 1) n = some 1 := bnd_nat (k := .i64) (h := 1) h0
  have ho : ¬ (openCap + 7 < openCap) := by omega
  have ho2 : n < openCap := by unfold openCap; omega
  simp [doSlice, h1, h2, bnds, lowB, highB, hb, oc7, ho, ho2]
theorem holds_after (m : List Pt) (x : Pt) : Holds (pcs [x] ++ pcs m) 7 m := by
  have := holds_tl (holds_cons m x)
  simpa using this
end Go.Proofs.Ytddhglcmfoopnaa.queue
