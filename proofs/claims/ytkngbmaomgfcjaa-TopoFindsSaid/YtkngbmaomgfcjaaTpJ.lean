/- Contract: the reference's Right; it is Check. -/
import Derived.Test.YtkngbmaomgfcjaaTpI
namespace Go.Proofs.Ytkngbmaomgfcjaa.topo
open Go Go.En
set_option linter.unusedVariables false

theorem g_out (X : Cx) (D : List Int) : CodeOk Try.prog none (lp Try.prog 14 5) (T14 X X.ls.length) [] (H14 X D) 6 ⟨.exit 0, T14 X X.ls.length, [], H14 X D, 6⟩ :=
  code_at (hs := [(38, .val (.bool (decide ((X.ls.length : Int) < X.ls.length))) (.bool false))]) (ch := []) (evk 50) special ⟨congrArg Value.bool (decide_eq_false (by omega)), trivial⟩ trivial (by kernel_rfl) (H14_below X D) (H14_below X D) (by kernel_rfl)
def gR (X : Cx) : List Lk → Nat → List Int → Bool × List Int
  | [], _, D => (true, D)
  | l :: r, i, D => bif linkOk X i l then gR X r (i + 1) (inc (inc D l.a.toNat) l.b.toNat) else (false, D)
def F14 (X : Cx) : Bool × List Int → Res
  | (true, D) => ⟨.exit 0, T14 X X.ls.length, [], H14 X D, 6⟩
  | (false, D) => ⟨.ret, TR14, [], H14 X D, 6⟩
theorem g_loop (X : Cx) (hN : X.N = X.S.length) : ∀ (k i : Nat) (D : List Int), D.length = X.S.length → i + k = X.ls.length → LoopOk Try.prog none (lp Try.prog 14 5) (T14 X i) [] (H14 X D) 6 (F14 X (gR X (X.ls.drop i) i D))
  | 0, i, D, hD, h => by
    have : i = X.ls.length := by omega
    subst this
    rw [List.drop_length]
    exact loopOk_out (g_out X D) (by show Exit.exit 0 ≠ Exit.normal; simp)
  | k + 1, i, D, hD, h => by
    have hlt : i < X.ls.length := by omega
    have hi : X.ls[i]? = some X.ls[i] := List.getElem?_eq_getElem hlt
    have h1 := g_go X hN hD hi
    rw [List.drop_eq_getElem_cons hlt]
    simp only [gR]
    cases hb : linkOk X i X.ls[i] with
    | false => rw [hb] at h1; exact loopOk_out h1 (by show Exit.ret ≠ Exit.normal; simp)
    | true =>
      rw [hb] at h1
      rw [show (i : Int) + 1 = ((i + 1 : Nat) : Int) by push_cast; rfl, wrap_nat (by have := X.hL; omega)] at h1
      exact loop_step h1 (g_loop X hN k (i + 1) _ (by rw [inc_len, inc_len]; exact hD) (by omega))
termination_by k => k
theorem gR_eq (X : Cx) : ∀ (l : List Lk) (i : Nat) (D : List Int), (gR X l i D).1 = sndGo X l i ∧ ((gR X l i D).1 = true → (gR X l i D).2 = cnt l D)
  | [], _, _ => ⟨rfl, fun _ => rfl⟩
  | l :: r, i, D => by
    have ih := gR_eq X r (i + 1) (inc (inc D l.a.toNat) l.b.toNat)
    simp only [gR, sndGo, cnt]
    cases linkOk X i l with
    | false => exact ⟨rfl, fun h => by cases h⟩
    | true => simpa using ih

def T15 (X : Cx) (i : Int) : List Value := [J, pt 2, .bool false, .slice (some ⟨5, 0, none⟩) X.S.length X.S.length, J, J, J, .slice (some ⟨7, 0, none⟩) X.S.length X.S.length, .int .i64 i] ++ List.replicate 110 J
def TR15 : List Value := [J, J, .bool false, J, J, J, J, J, J] ++ List.replicate 110 J
def H15 (X : Cx) (A : List Bool) (D : List Int) : Hp := (7, .cells (bc A) false) :: H14 X D
theorem H15_below (X : Cx) (A : List Bool) (D : List Int) : hpBelow 8 (H15 X A D) = true := by
  have h2 : hpBelow 8 (H14 X D) = true := H37_below X D (by omega)
  have a4 : tidyB 8 (.cells (bc A) false) = true := small_avL (bc_av A)
  show ((decide (7 < 8) && tidyB 8 (.cells (bc A) false)) && hpBelow 8 (H14 X D)) = true
  rw [h2, a4]; rfl
def badF (r s : Bool) (d : Int) : Bool := !r || badSt s d
def Q15 (X : Cx) (A : List Bool) (D : List Int) (j : Int) : Bool → Res
  | true => ⟨.ret, TR15, [], H15 X A D, 8⟩
  | false => ⟨.normal, T15 X j, [], H15 X A D, 8⟩
theorem f_go (X : Cx) {A : List Bool} {D : List Int} {i : Nat} {s : Bool} (hN : X.N = X.S.length) (hA : A.length = X.S.length) (hD : D.length = X.S.length) (hi : X.S[i]? = some s) :
    CodeOk Try.prog none (lp Try.prog 14 19) (T15 X i) [] (H15 X A D) 8 (Q15 X A D (IntKind.i64.wrap (i + 1)) (badF (A.getD i false) s (D.getD i 0))) := by
  have hlt := lt_of hi
  have hix : doIndexAddr Try.prog 28 (.slice (some ⟨5, 0, none⟩) X.S.length X.S.length) (.int .i64 i) = _ := ix_i hlt
  have hix7 : doIndexAddr Try.prog 22 (.slice (some ⟨7, 0, none⟩) X.S.length X.S.length) (.int .i64 i) = _ := ix_b hlt
  have ld := ld_i (b := 5) (ro := false) (D := D) (i := i) (by omega)
  have la := ld_b (b := 7) (ro := false) (R := A) (i := i) (by omega)
  have l0 := X.ldS hi
  unfold badF badSt
  have key : ∀ p0 p1 p2, A.getD i false = p0 → decide (D.getD i 0 < 1) = p1 → decide (D.getD i 0 > 2) = p2 → CodeOk Try.prog none (lp Try.prog 14 19) (T15 X i) [] (H15 X A D) 8 (Q15 X A D (IntKind.i64.wrap (i + 1)) (!p0 || (s && (p1 || p2)))) := by
    intro p0 p1 p2 h0 h1 h2
    rw [h0] at la
    cases p0 <;> cases s <;> cases p1 <;> cases p2 <;>
      exact code_at (hs := [(90, .val (.bool (decide ((i : Int) < X.N))) (.bool true)), (95, .ix 22 (.slice (some ⟨7, 0, none⟩) X.S.length X.S.length) (.int .i64 i) _), (96, .ld 4 _ 7 (bc A) false _), (102, .ix 22 (.slice X.sa X.S.length X.c) (.int .i64 i) _), (103, .ld 4 _ 0 X.st true _), (107, .ix 28 (.slice (some ⟨5, 0, none⟩) X.S.length X.S.length) (.int .i64 i) _), (108, .ld 3 _ 5 (ic D) false _), (109, .val (.bool (decide (D.getD i 0 < 1))) (.bool _)), (113, .ix 28 (.slice (some ⟨5, 0, none⟩) X.S.length X.S.length) (.int .i64 i) _), (114, .ld 3 _ 5 (ic D) false _), (115, .val (.bool (decide (D.getD i 0 > 2))) (.bool _))]) (ch := []) (evk 50) special
          ⟨congrArg Value.bool (decide_eq_true (by omega)), hix7, ⟨la, _, rfl⟩, X.ixS hlt, ⟨l0, _, rfl⟩, hix, ⟨ld, _, rfl⟩, congrArg Value.bool h1, hix, ⟨ld, _, rfl⟩, congrArg Value.bool h2, trivial⟩ trivial (by kernel_rfl) (H15_below X A D) (H15_below X A D) (by kernel_rfl)
  exact key _ _ _ rfl rfl rfl
theorem f_out (X : Cx) (A : List Bool) (D : List Int) (hN : X.N = X.S.length) : CodeOk Try.prog none (lp Try.prog 14 19) (T15 X X.S.length) [] (H15 X A D) 8 ⟨.exit 4, TR15, [], H15 X A D, 8⟩ :=
  code_at (hs := [(90, .val (.bool (decide ((X.S.length : Int) < X.N))) (.bool false))]) (ch := []) (evk 50) special ⟨congrArg Value.bool (decide_eq_false (by omega)), trivial⟩ trivial (by kernel_rfl) (H15_below X A D) (H15_below X A D) (by kernel_rfl)
def finBad (A : List Bool) (D : List Int) : List Bool → Nat → Bool
  | [], _ => false
  | s :: r, i => badF (A.getD i false) s (D.getD i 0) || finBad A D r (i + 1)
def F15 (X : Cx) (A : List Bool) (D : List Int) : Bool → Res
  | true => ⟨.ret, TR15, [], H15 X A D, 8⟩
  | false => ⟨.exit 4, TR15, [], H15 X A D, 8⟩
theorem f_loop (X : Cx) {A : List Bool} {D : List Int} (hN : X.N = X.S.length) (hA : A.length = X.S.length) (hD : D.length = X.S.length) : ∀ (k i : Nat), i + k = X.S.length → LoopOk Try.prog none (lp Try.prog 14 19) (T15 X i) [] (H15 X A D) 8 (F15 X A D (finBad A D (X.S.drop i) i))
  | 0, i, h => by
    have : i = X.S.length := by omega
    subst this
    rw [List.drop_length]
    exact loopOk_out (f_out X A D hN) (by show Exit.exit 4 ≠ Exit.normal; simp)
  | k + 1, i, h => by
    have hlt : i < X.S.length := by omega
    have hi : X.S[i]? = some X.S[i] := List.getElem?_eq_getElem hlt
    have h1 := f_go X hN hA hD hi
    rw [List.drop_eq_getElem_cons hlt]
    simp only [finBad]
    cases hb : badF (A.getD i false) X.S[i] (D.getD i 0) with
    | true => rw [hb] at h1; exact loopOk_out h1 (by show Exit.ret ≠ Exit.normal; simp)
    | false =>
      rw [hb] at h1
      rw [show (i : Int) + 1 = ((i + 1 : Nat) : Int) by push_cast; rfl, wrap_nat (by have := X.hS; omega)] at h1
      exact loop_step h1 (f_loop X hN hA hD k (i + 1) (by omega))
termination_by k => k
theorem right_no (X : Cx) (h : firstS X = false) : Memo.Ok Try.prog ⟨14, 2, [X.v], X.V, .bool false, [], 2⟩ := by
  unfold firstS at h
  have key : ∀ p1 p2 p3 p4, decide (X.N < 2) = p1 → decide (X.N > 12) = p2 → ((X.S.length : Int) != X.N) = p3 → decide ((X.ls.length : Int) > 24) = p4 → (!(p1 || p2) && !p3 && !p4) = false → Memo.Ok Try.prog ⟨14, 2, [X.v], X.V, .bool false, [], 2⟩ := by
    intro p1 p2 p3 p4 h1 h2 h3 h4 h5
    cases p1
    · cases p2
      · cases p3
        · cases p4
          · cases h5
          · exact memo_pure (hs := [(1, .frz), (11, .val (.bool (decide (X.N < 2))) (.bool _)), (15, .val (.bool (decide (X.N > 12))) (.bool _)), (23, .val (.bool ((X.S.length : Int) != X.N)) (.bool _)), (29, .val (.bool (decide ((X.ls.length : Int) > 24))) (.bool _))]) (ch := []) 5 (evk 50) special ⟨trivial, congrArg Value.bool h1, congrArg Value.bool h2, congrArg Value.bool h3, congrArg Value.bool h4, trivial⟩ trivial (X.hV rfl) (X.smallH 2) (by kernel_rfl)
        · exact memo_pure (hs := [(1, .frz), (11, .val (.bool (decide (X.N < 2))) (.bool _)), (15, .val (.bool (decide (X.N > 12))) (.bool _)), (23, .val (.bool ((X.S.length : Int) != X.N)) (.bool _))]) (ch := []) 4 (evk 50) special ⟨trivial, congrArg Value.bool h1, congrArg Value.bool h2, congrArg Value.bool h3, trivial⟩ trivial (X.hV rfl) (X.smallH 2) (by kernel_rfl)
      · exact memo_pure (hs := [(1, .frz), (11, .val (.bool (decide (X.N < 2))) (.bool _)), (15, .val (.bool (decide (X.N > 12))) (.bool _))]) (ch := []) 3 (evk 50) special ⟨trivial, congrArg Value.bool h1, congrArg Value.bool h2, trivial⟩ trivial (X.hV rfl) (X.smallH 2) (by kernel_rfl)
    · exact memo_pure (hs := [(1, .frz), (11, .val (.bool (decide (X.N < 2))) (.bool _))]) (ch := []) 3 (evk 50) special ⟨trivial, congrArg Value.bool h1, trivial⟩ trivial (X.hV rfl) (X.smallH 2) (by kernel_rfl)
  exact key _ _ _ _ rfl rfl rfl rfl h
def lateR (X : Cx) : Bool := soundS X && !finBad (reachR [] X.ls X.S.length 0) (cntS X) X.S 0
theorem right_yes (X : Cx) (h : firstS X = true) : Memo.Ok Try.prog ⟨14, 2, [X.v], X.V, .bool (lateR X), [], 2⟩ := by
  obtain ⟨hN, hn2, hn12, h24⟩ := first_true h
  have q1 : decide (X.N < 2) = false := decide_eq_false (by omega)
  have q2 : decide (X.N > 12) = false := decide_eq_false (by omega)
  have q3 : ((X.S.length : Int) != X.N) = false := by rw [hN]; simp
  have q4 : decide ((X.ls.length : Int) > 24) = false := decide_eq_false (by omega)
  have hg := g_loop X hN X.ls.length 0 (List.replicate X.S.length 0) (by simp) (by omega)
  rw [List.drop_zero] at hg
  have hge := gR_eq X X.ls 0 (List.replicate X.S.length 0)
  have mk := mk28 X.hS
  rw [rep_ic] at mk
  unfold lateR
  generalize hG : gR X X.ls 0 (List.replicate X.S.length 0) = g at hg hge
  obtain ⟨g1, g2⟩ := g
  cases hp : soundS X with
  | false =>
    have hg1 : g1 = false := hge.1.trans hp
    subst hg1
    have hV := X.hV (rest := []) (v := .bool (false && !finBad (reachR [] X.ls X.S.length 0) (cntS X) X.S 0)) rfl
    have hSm := X.smallH 2
    clear hge hG hp
    obtain ⟨N, sa', c, sb', d, st, lk, S, ls, a1, a2, a3, a4, a5, a6, a7, a8⟩ := X
    dsimp only at hN
    subst hN
    exact memo_pure (hs := [(1, .frz), (11, .val (.bool (decide ((S.length : Int) < 2))) (.bool _)), (15, .val (.bool (decide ((S.length : Int) > 12))) (.bool _)), (23, .val (.bool ((S.length : Int) != S.length)) (.bool _)), (29, .val (.bool (decide ((ls.length : Int) > 24))) (.bool _)), (33, .mk _ _ _ _ _)]) (ch := [⟨5, none, .loop (lp Try.prog 14 5), T14 _ 0, [], H14 _ _, 6, _, true⟩]) 6 (evk 50) special
      ⟨trivial, congrArg Value.bool q1, congrArg Value.bool q2, congrArg Value.bool q3, congrArg Value.bool q4, mk, trivial⟩ ⟨codeOk_loop hg, trivial⟩ hV hSm (by kernel_rfl)
  | true =>
    have hg1 : g1 = true := hge.1.trans hp
    subst hg1
    have hg2 : g2 = cntS X := hge.2 rfl
    subst hg2
    have he : ∀ l ∈ X.ls, Ends X.S.length l := fun l hl => hN ▸ ends_of (sndGo_mem hp l hl)
    have hcl : (cntS X).length = X.S.length := by unfold cntS; rw [cnt_len]; simp
    have hrl : (reachR [] X.ls X.S.length 0).length = X.S.length := by unfold reachR; rw [rIterR_len]; simp
    have mr := reachRn X hN he (a := 0) (by omega) 6
    have hf := f_loop X hN hrl hcl X.S.length 0 (by omega)
    rw [List.drop_zero] at hf
    have key : ∀ p, finBad (reachR [] X.ls X.S.length 0) (cntS X) X.S 0 = p → Memo.Ok Try.prog ⟨14, 2, [X.v], X.V, .bool (true && !p), [], 2⟩ := by
      intro p hpp
      rw [hpp] at hf
      have hV := X.hV (rest := []) (v := .bool (true && !p)) rfl
      have hSm := X.smallH 2
      clear hge hG hp he hcl hrl hpp
      obtain ⟨N, sa', c, sb', d, st, lk, S, ls, a1, a2, a3, a4, a5, a6, a7, a8⟩ := X
      dsimp only at hN
      subst hN
      cases p <;>
        exact memo_pure (hs := [(1, .frz), (11, .val (.bool (decide ((S.length : Int) < 2))) (.bool _)), (15, .val (.bool (decide ((S.length : Int) > 12))) (.bool _)), (23, .val (.bool ((S.length : Int) != S.length)) (.bool _)), (29, .val (.bool (decide ((ls.length : Int) > 24))) (.bool _)), (33, .mk _ _ _ _ _), (86, .call _)]) (ch := [⟨5, none, .loop (lp Try.prog 14 5), T14 _ 0, [], H14 _ _, 6, _, true⟩, ⟨19, none, .loop (lp Try.prog 14 19), T15 _ 0, [], H15 _ _ _, 8, _, true⟩]) 8 (evk 50) special
          ⟨trivial, congrArg Value.bool q1, congrArg Value.bool q2, congrArg Value.bool q3, congrArg Value.bool q4, mk, mr, trivial⟩ ⟨codeOk_loop hg, codeOk_loop hf, trivial⟩ hV hSm (by kernel_rfl)
    exact key _ rfl
/-! ### It is Check -/
theorem set_true {R : List Bool} {a : Nat} (h : R.getD a false = true) : R.set a true = R := by
  apply List.ext_getElem?
  intro j
  rw [List.getElem?_set]
  by_cases hj : a = j
  · subst hj
    rw [List.getD_eq_getElem?_getD] at h
    cases hr : R[a]? with
    | none => rw [hr] at h; cases h
    | some b =>
      rw [hr] at h
      simp at h
      subst h
      simp [(List.getElem?_eq_some_iff.1 hr).1]
  · simp [hj]
theorem step_eq {C : List Bool} {K : List Int} {i : Nat} (hCK : C.getD i false = inS K i) (l : Lk) (R : List Bool) : rstep C i l R = rstepR K i l R := by
  unfold rstep rstepR
  rw [hCK]
  cases inS K i with
  | true => rfl
  | false =>
    cases ha : R.getD l.a.toNat false with
    | false => cases hb : R.getD l.b.toNat false <;> rfl
    | true =>
      cases hb : R.getD l.b.toNat false with
      | false => rfl
      | true =>
        have h2 : (R.set l.a.toNat true).set l.b.toNat true = R := by rw [set_true ha, set_true hb]
        simp [h2]
theorem go_eq {C : List Bool} {K : List Int} : ∀ (ls : List Lk) (i : Nat) (R : List Bool), (∀ j, i ≤ j → j < i + ls.length → C.getD j false = inS K j) → rgo C ls i R = rgoR K ls i R
  | [], _, _, _ => rfl
  | l :: r, i, R, h => by
    rw [rgo, rgoR, step_eq (h i (Nat.le_refl _) (by simp)), go_eq r (i + 1) _ fun j h1 h2 => h j (by omega) (by simp; omega)]
theorem iter_eq {C : List Bool} {K : List Int} {ls : List Lk} (h : ∀ j, j < ls.length → C.getD j false = inS K j) : ∀ (n : Nat) (R : List Bool), rIter C ls n R = rIterR K ls n R
  | 0, _ => rfl
  | n + 1, R => by rw [rIter, rIterR, go_eq ls 0 R fun j _ h2 => h j (by omega), iter_eq h n]
theorem reach_eq {C : List Bool} {K : List Int} {ls : List Lk} (h : ∀ j, j < ls.length → C.getD j false = inS K j) (n a : Nat) : reachS C ls n a = reachR K ls n a := iter_eq h n _
theorem fin_eq {A : List Bool} {D : List Int} : ∀ (S : List Bool) (i : Nat), finBad A D S i = ((findF ((A.drop i).take S.length) i).isSome || stBad D S i) ∨ A.length < i + S.length
  | [], i => .inl (by simp [finBad, stBad, findF])
  | s :: r, i => by
    rcases fin_eq (A := A) (D := D) r (i + 1) with ih | ih
    · by_cases hlt : i < A.length
      · left
        rw [List.drop_eq_getElem_cons hlt, List.length_cons, List.take_succ_cons]
        simp only [finBad, stBad, findF, ih, badF]
        have hg : A.getD i false = A[i] := by simp [List.getD_eq_getElem?_getD, hlt]
        rw [hg]
        cases A[i] with
        | false => simp
        | true =>
          simp only [Bool.not_true, Bool.false_or, cond_true]
          cases badSt s (D.getD i 0) <;> cases (findF ((A.drop (i + 1)).take r.length) (i + 1)).isSome <;> rfl
      · right; simp; omega
    · right; simp at ih ⊢; omega
theorem late_eq (X : Cx) : lateR X = lateS X := by
  unfold lateR lateS allS
  have hr : reachS cut0 X.ls X.S.length 0 = reachR [] X.ls X.S.length 0 := reach_eq (fun j _ => by
    simp only [inS, List.any_nil, cut0, List.getD_eq_getElem?_getD, List.getElem?_replicate]
    split <;> rfl) _ _
  have hrl : (reachR [] X.ls X.S.length 0).length = X.S.length := by unfold reachR; rw [rIterR_len]; simp
  rw [hr]
  rcases fin_eq (A := reachR [] X.ls X.S.length 0) (D := cntS X) X.S 0 with h | h
  · rw [h, List.drop_zero]
    have ht : List.take X.S.length (reachR [] X.ls X.S.length 0) = reachR [] X.ls X.S.length 0 := by
      apply List.take_of_length_le; omega
    rw [ht]
    cases soundS X <;> cases stBad (cntS X) X.S 0 <;> cases (findF (reachR [] X.ls X.S.length 0) 0).isSome <;> rfl
  · omega
theorem right_0 (X : Cx) : Memo.Ok Try.prog ⟨14, 2, [X.v], X.V, .bool (checkS X), [], 2⟩ := by
  unfold checkS
  cases h : firstS X with
  | false => exact right_no X h
  | true =>
    rw [← late_eq]
    exact right_yes X h
theorem right_m (X : Cx) {p : Bool} (h : checkS X = p) (nx : Nat) : Memo.Ok Try.prog ⟨14, nx, [X.v], X.V, .bool p, [], nx⟩ :=
  Cx.at (rest := []) (h ▸ right_0 X) nx rfl rfl rfl
end Go.Proofs.Ytkngbmaomgfcjaa.topo
