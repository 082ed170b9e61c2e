/- Parts of a proof, joined: TqF, TqG, TqH, TqI, TqJ, TqK, TqL, TqM, TqN, TrA, TrB, TrC, TrD. -/
import Derived.Shelf.Sort.Plain
import Derived.Test.YtkngbmaomgfcjaaFt2
/- Contract: the reference's Topo: the stations. -/
namespace Go.Proofs.Ytkngbmaomgfcjaa.topo
open Go Go.En
set_option linter.unusedVariables false

def slB (b : Nat) : List Bool → Value
  | [] => .slice none 0 0
  | x :: r => .slice (some ⟨b, 0, none⟩) (x :: r).length oc1
def hpB (b : Nat) (S : List Bool) (H : Hp) : Hp := match S with
  | [] => H
  | x :: r => (b, .cells (bc (x :: r)) false) :: H
theorem src_bc {H : Hp} {b e : Nat} {l : List Bool} {ro : Bool} (hb : H.get b = some (.cells (bc l) ro)) : srcCells H 1 (.slice (some ⟨b, 0, none⟩) l.length e) = some (l.length, bc l) := by
  by_cases h0 : l.length = 0
  · have : l = [] := List.length_eq_zero_iff.1 h0
    subst this; rfl
  · have hl : 0 + l.length * 1 ≤ (bc l).length := by rw [bc_len]; omega
    simp only [srcCells, h0, if_false, hb, hl, if_true, List.drop_zero]
    rw [List.take_of_length_le (by rw [bc_len]; omega)]
theorem app_bo {a b : Nat} {L : List Bool} {x : Bool} (hlen : L.length ≤ 900) :
    Hint.Ok Try.prog (.app [22, 22] 22 [.slice (some ⟨a, 0, none⟩) L.length oc1, .slice (some ⟨b, 0, none⟩) 1 1] [(a, bc L), (b, bc [x])] (some a) (L ++ [x]).length oc1 (bc (L ++ [x]))) := by
  intro H nx hV hrw
  obtain ⟨inf, z, h1, h2, h3, h4, h5⟩ := info_of (t := 4) (s := 1) (by_ := 1) (by kernel_rfl)
  obtain ⟨r1, g1⟩ := hV a (bc L) (by simp)
  obtain ⟨r2, g2⟩ := hV b (bc [x]) (by simp)
  have hr1 : r1 = false := by simp only [rwO, g1] at hrw; cases r1 <;> simp at hrw ⊢
  subst hr1
  have e1 := src_bc (e := openCap + 1) g1
  have e2 : srcCells H 1 (.slice (some ⟨b, 0, none⟩) 1 1) = some (1, bc [x]) := src_bc (e := 1) g2
  have hnc : openCap ≤ openCap + 1 := by omega
  have hml : L.length + 1 ≤ maxLen := by unfold maxLen; omega
  have hby : (L.length + 1) * 1 ≤ 140737488355328 := by omega
  have hlt : ¬ (openCap + 1 < L.length + 1) := by unfold openCap; omega
  have hap : bc L ++ bc [x] = bc (L ++ [x]) := by simp [bc]
  have hln : L.length + 1 = (L ++ [x]).length := by simp
  have h10 : ¬ ((1 : Nat) = 0) := by omega
  have hone : oneL (bc [x]) = true := rfl
  simp only [doBuiltin, if_true, doAppend, oc1, u22, h1, h2, h3, h4, e2, h5, e1, h10, hlt, hml, hby, hnc, if_false, and_self, Nat.zero_lt_one, delO, Nat.add_sub_cancel_left, imp_self, g1, hone, hap, ← hln]
def HSt (D : Dr) (N : Int) (k : Nat) (S : List Bool) : Hp := hpB k S ([(6, .cells [.int .i64 N, slB k S, .slice none 0 0] false), (5, .cells tzs false), (4, .cells D.cells true)] ++ roHp D.V)
section
variable {D : Dr} {N B T : Int}
theorem sg_go {S : List Bool} {i : Nat} (hS : S.length ≤ 900) (hi : (i : Int) < N) :
    CodeOk Try.prog none (lp Try.prog 21 5) (TT B T 6 i) [] (HSt D N 7 S) 8 ⟨.normal, TT B T 6 (W (i + 1)), [], HSt D N 9 (S ++ [decide ((i : Int) ≥ B)]), 10⟩ := by
  have hd : decide ((i : Int) < N) = true := decide_eq_true hi
  have ap := app_bo (a := 7) (b := 8) (L := S) (x := decide ((i : Int) ≥ B)) hS
  cases S with
  | nil => exact code_k [9, 6, 5, 4, 0, 1, 2, 3] (hs := [(28, .val (.bool (decide ((i : Int) < N))) (.bool true))]) (ch := []) (evk 50) special ⟨congrArg Value.bool hd, trivial⟩ trivial (by kernel_rfl)
  | cons y r => exact code_k [9, 6, 5, 4, 0, 1, 2, 3] (hs := [(28, .val (.bool (decide ((i : Int) < N))) (.bool true)), (37, .app _ _ _ _ _ _ _ _)]) (ch := []) (evk 50) special ⟨congrArg Value.bool hd, ap, trivial⟩ trivial (by kernel_rfl)
theorem sg_out {S : List Bool} : CodeOk Try.prog none (lp Try.prog 21 5) (TT B T 6 N) [] (HSt D N 7 S) 8 ⟨.exit 0, TTX B T, [], HSt D N 7 S, 8⟩ := by
  have hd : decide (N < N) = false := decide_eq_false (by omega)
  cases S with
  | nil => exact code_k [6, 5, 4, 0, 1, 2, 3] (hs := [(28, .val (.bool (decide (N < N))) (.bool false))]) (ch := []) (evk 50) special ⟨congrArg Value.bool hd, trivial⟩ trivial (by kernel_rfl)
  | cons y r => exact code_k [7, 6, 5, 4, 0, 1, 2, 3] (hs := [(28, .val (.bool (decide (N < N))) (.bool false))]) (ch := []) (evk 50) special ⟨congrArg Value.bool hd, trivial⟩ trivial (by kernel_rfl)
theorem HSt_ren {σ : Nat → Nat} (hσ : ∀ b, b < 7 → σ b = b) {k k' : Nat} (hk : σ k = k') (S : List Bool) : renHp σ (HSt D N k S) = HSt D N k' S := by
  have e0 := DV_ren D (hσ 0 (by omega)) (hσ 1 (by omega)) (hσ 2 (by omega)) (hσ 3 (by omega))
  have e1 := D.renC (hσ 0 (by omega)) (hσ 1 (by omega)) (hσ 2 (by omega)) (hσ 3 (by omega)) 5
  have e3 : tzs.map (renV σ 5) = tzs := rfl
  cases S with
  | nil => simp only [HSt, hpB, slB, List.cons_append, List.nil_append, renHp, renBlk, e0, e1, e3, List.map_cons, List.map_nil, renV, hσ 6 (by omega), hσ 5 (by omega), hσ 4 (by omega)]
  | cons x r =>
    have e4 : (bc (x :: r)).map (renV σ 5) = bc (x :: r) := renV_avL (bc_av _)
    simp only [HSt, hpB, slB, List.cons_append, List.nil_append, renHp, renBlk, e0, e1, e3, e4, hk, List.map_cons, List.map_nil, renV, hσ 6 (by omega), hσ 5 (by omega), hσ 4 (by omega)]
theorem HSt_below {k n : Nat} (S : List Bool) (hk : k < n) (hn : 7 ≤ n) : hpBelow n (HSt D N k S) = true := by
  have a0 := DV_below D (show 4 ≤ n by omega)
  have a1 : tidyB n (.cells D.cells true) = true := D.small (by omega) 5
  have a3 : tidyB n (.cells tzs false) = true := by simp [tidyB, tzs, En.smallL, En.small]
  cases S with
  | nil =>
    have a4 : tidyB n (.cells [.int .i64 N, slB k [], .slice none 0 0] false) = true := by simp [tidyB, slB, En.smallL, En.small]
    simp only [HSt, hpB, List.cons_append, List.nil_append, hpBelow, a0, a1, a3, a4]; simp; omega
  | cons x r =>
    have a4 : tidyB n (.cells [.int .i64 N, slB k (x :: r), .slice none 0 0] false) = true := by simp [tidyB, slB, En.smallL, En.small]; omega
    have a5 : tidyB n (.cells (bc (x :: r)) false) = true := small_avL (bc_av _)
    simp only [HSt, hpB, List.cons_append, List.nil_append, hpBelow, a0, a1, a3, a4, a5]; simp; omega
end
def stR (B : Int) : Nat → Nat → List Bool
  | 0, _ => []
  | k + 1, i => decide ((i : Int) ≥ B) :: stR B k (i + 1)
def σs : Nat → Nat := fun b => if b = 7 then 9 else b
theorem sg_loop {D : Dr} {B T : Int} {nn : Nat} (hn : nn ≤ 100) : ∀ (k i : Nat) (S : List Bool), i + k = nn → S.length = i →
    LoopL Try.prog 7 none (lp Try.prog 21 5) (TT B T 6 i) [] (HSt D nn 7 S) 8 ⟨.exit 0, TTX B T, [], HSt D nn 7 (S ++ stR B k i), 10⟩
  | 0, i, S, h, hS => by
    have : i = nn := by omega
    subst this
    simp only [stR, List.append_nil]
    exact loopL_out sg_out (by show Exit.exit 0 ≠ Exit.normal; simp) (by omega) (M := 10) (by show 8 ≤ 10; omega)
  | k + 1, i, S, h, hS => by
    have hw : W ((i : Int) + 1) = ((i + 1 : Nat) : Int) := by
      rw [show (i : Int) + 1 = ((i + 1 : Nat) : Int) by push_cast; rfl]; exact wrap_nat (by omega)
    have h1 := sg_go (D := D) (N := nn) (B := B) (T := T) (S := S) (i := i) (by omega) (by omega)
    rw [hw] at h1
    have ih := sg_loop (D := D) (B := B) (T := T) hn k (i + 1) (S ++ [decide ((i : Int) ≥ B)]) (by omega) (by simp; omega)
    rw [List.append_assoc] at ih
    have hne : ∃ y r, S ++ [decide ((i : Int) ≥ B)] = y :: r := by cases S <;> simp
    refine loopL_step σs (n1 := 10) ?_ ih (by show 10 ≤ 10; omega) (fun b hb => by simp only [σs]; rw [if_neg (by omega)]) (by
      rw [HSt_ren (fun b hb => by simp only [σs]; rw [if_neg (by omega)]) (k' := 9) rfl]
      obtain ⟨y, r, hyr⟩ := hne
      rw [hyr]; kernel_rfl) (HSt_below _ (by omega) (by omega))
    rw [HSt_ren (fun b hb => by simp only [σs]; rw [if_neg (by omega)]) (k' := 9) rfl]
    exact h1
termination_by k => k
end Go.Proofs.Ytkngbmaomgfcjaa.topo
/- Plain: the links of a draft's topology. -/
namespace Go.Proofs.Ytkngbmaomgfcjaa.topo
open Go Go.En
set_option linter.unusedVariables false

theorem stR_len (B : Int) : ∀ (k i : Nat), (stR B k i).length = k
  | 0, _ => rfl
  | k + 1, i => by simp [stR, stR_len B k (i + 1)]
theorem stR_get (B : Int) : ∀ (k i j : Nat), j < k → (stR B k i).getD j false = decide (((i + j : Nat) : Int) ≥ B)
  | 0, _, _, h => by omega
  | k + 1, i, 0, _ => by simp [stR]
  | k + 1, i, j + 1, h => by
    have := stR_get B k (i + 1) j (by omega)
    rw [show i + 1 + j = i + (j + 1) by omega] at this
    rw [← this]
    simp [stR]
theorem mkL_k4 (D : Dr) (n : Nat) (a b : Int) : k4 (mkL D n a b) = true := by
  have h1 := pickS_ok D.pe n
  have h2 := pickS_ok D.de n
  unfold k4 mkL
  simp only [Bool.and_eq_true, decide_eq_true_eq]
  omega
theorem linkS_iff (D : Dr) {bn nn n : Nat} {a b : Nat} (ha : a < nn) (hb : b < nn) (hab : a ≠ b) (hs : a < bn ∨ b < bn) : linkS (stR bn nn 0) nn (mkL D n a b) = true := by
  unfold linkS
  rw [mkL_k4]
  have e1 : (mkL D n a b).a = a := rfl
  have e2 : (mkL D n a b).b = b := rfl
  rw [e1, e2]
  simp only [Int.toNat_natCast, Bool.and_true]
  rw [stR_get bn nn 0 a ha, stR_get bn nn 0 b hb]
  unfold k1 nodeS k2
  rw [e1, e2]
  simp only [Bool.and_eq_true, decide_eq_true_eq, bne_iff_ne, ne_eq, Bool.or_eq_true, Bool.not_eq_true', decide_eq_false_iff_not]
  omega
theorem withS_ne {S : List Bool} {N : Int} {D : Dr} {L : List Lk} {a b : Int} (h : linkS S N (mkL D L.length a b) = true) : withS S N D L a b ≠ [] := by
  unfold withS
  rw [h]
  cases L with
  | nil => simp
  | cons y r => cases ((((y :: r).length : Nat) : Int) == 24) <;> cases ((y :: r).any fun o => joinsS o a b) <;> simp
theorem withS_keep {S : List Bool} {N : Int} {D : Dr} {L : List Lk} {a b : Int} (h : L ≠ []) : withS S N D L a b ≠ [] := by
  rcases withS_cases S N D L a b with h1 | h1 <;> rw [h1]
  · exact h
  · simp
theorem itr_ne {f : Nat → List Lk → List Lk} (hf : ∀ i L, L ≠ [] → f i L ≠ []) : ∀ (k i : Nat) (L : List Lk), L ≠ [] → itr f k i L ≠ []
  | 0, _, _, h => h
  | k + 1, i, L, h => itr_ne hf k (i + 1) _ (hf i L h)
theorem itr_len {f : Nat → List Lk → List Lk} (hf : ∀ i L, L.length ≤ 24 → (f i L).length ≤ 24) : ∀ (k i : Nat) (L : List Lk), L.length ≤ 24 → (itr f k i L).length ≤ 24
  | 0, _, _, h => h
  | k + 1, i, L, h => itr_len hf k (i + 1) _ (hf i L h)
def bnS (D : Dr) : Nat := 1 + (D.br.x % 6).toNat
def tnS (D : Dr) : Nat := 2 + (D.st.x % 5).toNat
theorem bn_ok (D : Dr) : 1 ≤ bnS D ∧ bnS D ≤ 6 := by have := D.br.h; unfold bnS; omega
theorem tn_ok (D : Dr) : 2 ≤ tnS D ∧ tnS D ≤ 6 := by have := D.st.h; unfold tnS; omega
def nnS (D : Dr) : Nat := bnS D + tnS D
def SS (D : Dr) : List Bool := stR (bnS D) (nnS D) 0
theorem SS_len (D : Dr) : (SS D).length = nnS D := stR_len _ _ _
def L1 (D : Dr) : List Lk := itr (fA (SS D) (nnS D) D) (bnS D - 1) 1 []
def L2 (D : Dr) : List Lk := itr (fB (SS D) (nnS D) D (bnS D)) (tnS D) 0 (L1 D)
def closeB (D : Dr) : Bool := decide ((bnS D : Int) > 2) && (Int.tmod D.br.x 2 == 0)
def L3 (D : Dr) : List Lk := bif closeB D then withS (SS D) (nnS D) D (L2 D) (W ((bnS D : Int) - 1)) 0 else L2 D
def L4 (D : Dr) : List Lk := itr (fD (SS D) (nnS D) D (bnS D)) (tnS D) 0 (L3 D)
def L5 (D : Dr) : List Lk := itr (fE (SS D) (nnS D) D (bnS D)) (nch D) 0 (L4 D)
theorem L1_len (D : Dr) : (L1 D).length ≤ 24 := itr_len (fun i L h => withS_len h) _ _ _ (by simp)
theorem L2_len (D : Dr) : (L2 D).length ≤ 24 := itr_len (fun i L h => withS_len h) _ _ _ (L1_len D)
theorem L3_len (D : Dr) : (L3 D).length ≤ 24 := by
  unfold L3
  cases closeB D
  · exact L2_len D
  · exact withS_len (L2_len D)
theorem L4_len (D : Dr) : (L4 D).length ≤ 24 := itr_len (fun i L h => by
  unfold fD
  cases decide (Int.tmod (pickS D.ho (2 * i + 1)) 3 > 0)
  · exact h
  · exact withS_len h) _ _ _ (L3_len D)
theorem L5_len (D : Dr) : (L5 D).length ≤ 24 := itr_len (fun i L h => withS_len h) _ _ _ (L4_len D)
theorem homeB (D : Dr) (p : Int) (h : 0 ≤ p) : ∃ m : Nat, Int.tmod p (bnS D) = m ∧ m < bnS D := by
  have hb := bn_ok D
  rw [Int.tmod_eq_emod_of_nonneg h]
  have h1 := Int.emod_nonneg p (show (bnS D : Int) ≠ 0 by omega)
  have h2 := Int.emod_lt_of_pos p (show (0 : Int) < bnS D by omega)
  exact ⟨(p % (bnS D)).toNat, by omega, by omega⟩
theorem wrapN {n : Nat} (h : n ≤ 1000) : W (n : Int) = n := W_id (by omega)
theorem L2_ne (D : Dr) : L2 D ≠ [] := by
  have hb := bn_ok D
  have ht := tn_ok D
  unfold L2
  obtain ⟨k, hk⟩ : ∃ k, tnS D = k + 1 := ⟨tnS D - 1, by omega⟩
  rw [hk]
  simp only [itr]
  refine itr_ne (fun i L h => withS_keep h) _ _ _ ?_
  unfold fB
  obtain ⟨m, hm, hm2⟩ := homeB D (pickS D.ho (2 * 0)) (pickS_ok _ _).1
  refine withS_ne ?_
  rw [hm, show (bnS D : Int) + ((0 : Nat) : Int) = ((bnS D : Nat) : Int) by omega, wrapN (by omega)]
  exact linkS_iff D (by unfold nnS; omega) (by unfold nnS; omega) (by omega) (.inr hm2)
theorem L3_ne (D : Dr) : L3 D ≠ [] := by
  unfold L3
  cases closeB D
  · exact L2_ne D
  · exact withS_keep (L2_ne D)
theorem L4_ne (D : Dr) : L4 D ≠ [] := itr_ne (fun i L h => by
  unfold fD
  cases decide (Int.tmod (pickS D.ho (2 * i + 1)) 3 > 0)
  · exact h
  · exact withS_keep h) _ _ _ (L3_ne D)
theorem L5_ne (D : Dr) : L5 D ≠ [] := itr_ne (fun i L h => withS_keep h) _ _ _ (L4_ne D)
end Go.Proofs.Ytkngbmaomgfcjaa.topo
/- Contract: the reference's Topo. -/
namespace Go.Proofs.Ytkngbmaomgfcjaa.topo
open Go Go.En
set_option linter.unusedVariables false

def mv (a b : Nat) : Nat → Nat := fun x => if x = a then b else x
theorem mv_lt {a b : Nat} : ∀ x, x < a → mv a b x = x := fun x hx => by simp only [mv]; rw [if_neg (by omega)]
section
variable {D : Dr} {bn tn : Nat} {N : Int} {S : List Bool} (hN : N = S.length) (hS : S.length ≤ 1000) (hb : 0 < bn) (hbn : bn ≤ 100) (htn : tn ≤ 100)
include hN hS hb hbn htn
theorem b_at10 {L : List Lk} (hL : L.length ≤ 24) : LoopOk Try.prog none (lp Try.prog 21 13) (TT bn tn 8 0) [] (HT D N S 10 L) 18 ⟨.exit 4, TTX bn tn, [], HT D N S 18 (itr (fB S N D bn) tn 0 L), 26⟩ := by
  have h := loopOk_ren (mv 18 10) (lb_loop (D := D) hN hS hb hbn htn tn 0 L (by omega) hL) mv_lt (by rw [HT_ren D N S (fun x hx => mv_lt x (by omega)) (k' := 10) rfl]; cases L <;> kernel_rfl) (HT_below D N S L (by omega) (by omega))
  rw [HT_ren D N S (fun x hx => mv_lt x (by omega)) (k' := 10) rfl] at h
  exact h
theorem d_at18 {L : List Lk} (hL : L.length ≤ 24) : LoopOk Try.prog none (lp Try.prog 21 19) (TT bn tn 9 0) [] (HT D N S 18 L) 33 ⟨.exit 6, TTX bn tn, [], HT D N S 33 (itr (fD S N D bn) tn 0 L), 41⟩ := by
  have h := loopOk_ren (mv 33 18) (ld_loop (D := D) hN hS hb hbn htn tn 0 L (by omega) hL) mv_lt (by rw [HT_ren D N S (fun x hx => mv_lt x (by omega)) (k' := 18) rfl]; cases L <;> kernel_rfl) (HT_below D N S L (by omega) (by omega))
  rw [HT_ren D N S (fun x hx => mv_lt x (by omega)) (k' := 18) rfl] at h
  exact h
theorem d_at32 {L : List Lk} (hL : L.length ≤ 24) : LoopOk Try.prog none (lp Try.prog 21 19) (TT bn tn 9 0) [] (HT D N S 32 L) 33 ⟨.exit 6, TTX bn tn, [], HT D N S 33 (itr (fD S N D bn) tn 0 L), 41⟩ := by
  have h := loopOk_ren (mv 33 32) (ld_loop (D := D) hN hS hb hbn htn tn 0 L (by omega) hL) mv_lt (by rw [HT_ren D N S (fun x hx => mv_lt x (by omega)) (k' := 32) rfl]; cases L <;> kernel_rfl) (HT_below D N S L (by omega) (by omega))
  rw [HT_ren D N S (fun x hx => mv_lt x (by omega)) (k' := 32) rfl] at h
  exact h
theorem e_at33 {L : List Lk} (hL : L.length ≤ 24) : LoopOk Try.prog none (lp Try.prog 21 24) (TT bn tn 10 0) [] (HT D N S 33 L) 41 ⟨.exit 8, TTX bn tn, [], HT D N S 41 (itr (fE S N D bn) (nch D) 0 L), 50⟩ := by
  have h := loopOk_ren (mv 41 33) (le_loop (D := D) hN hS hb hbn htn (nch D) 0 L (by omega) hL) mv_lt (by rw [HT_ren D N S (fun x hx => mv_lt x (by omega)) (k' := 33) rfl]; cases L <;> kernel_rfl) (HT_below D N S L (by omega) (by omega))
  rw [HT_ren D N S (fun x hx => mv_lt x (by omega)) (k' := 33) rfl] at h
  exact h
end
section
variable {D : Dr} {bn tn : Nat} {N : Int} {y0 : Bool} {r0 : List Bool} {A1 : List Lk} {y2 y3 y4 y5 : Lk} {r2 r3 r4 r5 : List Lk}
  (e15 : W (1 + W (Int.tmod D.br.x 6)) = (bn : Nat)) (e20 : W (2 + W (Int.tmod D.st.x 5)) = (tn : Nat)) (e23 : W ((bn : Int) + (tn : Int)) = N)
  (hs : LoopOk Try.prog none (lp Try.prog 21 5) (TT bn tn 6 0) [] (HSt D N 7 []) 7 ⟨.exit 0, TTX bn tn, [], HSt D N 7 (y0 :: r0), 10⟩)
  (ha : LoopOk Try.prog none (lp Try.prog 21 9) (TT bn tn 7 1) [] (HT D N (y0 :: r0) 10 []) 10 ⟨.exit 2, TTX bn tn, [], HT D N (y0 :: r0) 10 A1, 18⟩)
  (hb : LoopOk Try.prog none (lp Try.prog 21 13) (TT bn tn 8 0) [] (HT D N (y0 :: r0) 10 A1) 18 ⟨.exit 4, TTX bn tn, [], HT D N (y0 :: r0) 18 (y2 :: r2), 26⟩)
  (he : LoopOk Try.prog none (lp Try.prog 21 24) (TT bn tn 10 0) [] (HT D N (y0 :: r0) 33 (y4 :: r4)) 41 ⟨.exit 8, TTX bn tn, [], HT D N (y0 :: r0) 41 (y5 :: r5), 50⟩)
include e15 e20 e23 hs ha hb he
theorem core_no (hd0 : LoopOk Try.prog none (lp Try.prog 21 19) (TT bn tn 9 0) [] (HT D N (y0 :: r0) 18 (y2 :: r2)) 33 ⟨.exit 6, TTX bn tn, [], HT D N (y0 :: r0) 33 (y4 :: r4), 41⟩) {p q : Bool} (hp : decide ((bn : Int) > 2) = p) (hq : (Int.tmod D.br.x 2 == 0) = q) (hpq : (p && q) = false) : Memo.Ok Try.prog ⟨21, 4, [D.v], D.V, tvT N (y0 :: r0).length 41 (y5 :: r5), [(41, lcs (y5 :: r5)), (7, bc (y0 :: r0))], 50⟩ := by
  have hd := loopOk_low (m := 26) hd0 (by omega)
  cases p
  · cases A1 with
    | nil => exact memo_new (hs := [(1, .frz), (15, .val (.int .i64 (W (1 + W (Int.tmod D.br.x 6)))) (.int .i64 (bn : Nat))), (20, .val (.int .i64 (W (2 + W (Int.tmod D.st.x 5)))) (.int .i64 (tn : Nat))), (23, .val (.int .i64 (W ((bn : Int) + (tn : Int)))) (.int .i64 N)), (69, .val (.bool (decide ((bn : Int) > 2))) (.bool false))]) (ch := [⟨5, none, .loop (lp Try.prog 21 5), TT bn tn 6 0, [], HSt D N 7 [], 7, _, true⟩, ⟨9, none, .loop (lp Try.prog 21 9), TT bn tn 7 1, [], HT D N (y0 :: r0) 10 [], 10, _, true⟩, ⟨13, none, .loop (lp Try.prog 21 13), TT bn tn 8 0, [], HT D N (y0 :: r0) 10 [], 18, _, true⟩, ⟨19, none, .loop (lp Try.prog 21 19), TT bn tn 9 0, [], HT D N (y0 :: r0) 18 (y2 :: r2), 26, _, true⟩, ⟨24, none, .loop (lp Try.prog 21 24), TT bn tn 10 0, [], HT D N (y0 :: r0) 33 (y4 :: r4), 41, _, true⟩]) (evk 50) special ⟨trivial, congrArg (Value.int .i64) e15, congrArg (Value.int .i64) e20, congrArg (Value.int .i64) e23, congrArg Value.bool hp, trivial⟩ ⟨codeOk_loop hs, codeOk_loop ha, codeOk_loop hb, codeOk_loop hd, codeOk_loop he, trivial⟩ (by kernel_rfl)
    | cons y1 r1 => exact memo_new (hs := [(1, .frz), (15, .val (.int .i64 (W (1 + W (Int.tmod D.br.x 6)))) (.int .i64 (bn : Nat))), (20, .val (.int .i64 (W (2 + W (Int.tmod D.st.x 5)))) (.int .i64 (tn : Nat))), (23, .val (.int .i64 (W ((bn : Int) + (tn : Int)))) (.int .i64 N)), (69, .val (.bool (decide ((bn : Int) > 2))) (.bool false))]) (ch := [⟨5, none, .loop (lp Try.prog 21 5), TT bn tn 6 0, [], HSt D N 7 [], 7, _, true⟩, ⟨9, none, .loop (lp Try.prog 21 9), TT bn tn 7 1, [], HT D N (y0 :: r0) 10 [], 10, _, true⟩, ⟨13, none, .loop (lp Try.prog 21 13), TT bn tn 8 0, [], HT D N (y0 :: r0) 10 (y1 :: r1), 18, _, true⟩, ⟨19, none, .loop (lp Try.prog 21 19), TT bn tn 9 0, [], HT D N (y0 :: r0) 18 (y2 :: r2), 26, _, true⟩, ⟨24, none, .loop (lp Try.prog 21 24), TT bn tn 10 0, [], HT D N (y0 :: r0) 33 (y4 :: r4), 41, _, true⟩]) (evk 50) special ⟨trivial, congrArg (Value.int .i64) e15, congrArg (Value.int .i64) e20, congrArg (Value.int .i64) e23, congrArg Value.bool hp, trivial⟩ ⟨codeOk_loop hs, codeOk_loop ha, codeOk_loop hb, codeOk_loop hd, codeOk_loop he, trivial⟩ (by kernel_rfl)
  · cases q
    · cases A1 with
      | nil => exact memo_new (hs := [(1, .frz), (15, .val (.int .i64 (W (1 + W (Int.tmod D.br.x 6)))) (.int .i64 (bn : Nat))), (20, .val (.int .i64 (W (2 + W (Int.tmod D.st.x 5)))) (.int .i64 (tn : Nat))), (23, .val (.int .i64 (W ((bn : Int) + (tn : Int)))) (.int .i64 N)), (69, .val (.bool (decide ((bn : Int) > 2))) (.bool true)), (74, .val (.bool (Int.tmod D.br.x 2 == 0)) (.bool false))]) (ch := [⟨5, none, .loop (lp Try.prog 21 5), TT bn tn 6 0, [], HSt D N 7 [], 7, _, true⟩, ⟨9, none, .loop (lp Try.prog 21 9), TT bn tn 7 1, [], HT D N (y0 :: r0) 10 [], 10, _, true⟩, ⟨13, none, .loop (lp Try.prog 21 13), TT bn tn 8 0, [], HT D N (y0 :: r0) 10 [], 18, _, true⟩, ⟨19, none, .loop (lp Try.prog 21 19), TT bn tn 9 0, [], HT D N (y0 :: r0) 18 (y2 :: r2), 26, _, true⟩, ⟨24, none, .loop (lp Try.prog 21 24), TT bn tn 10 0, [], HT D N (y0 :: r0) 33 (y4 :: r4), 41, _, true⟩]) (evk 50) special ⟨trivial, congrArg (Value.int .i64) e15, congrArg (Value.int .i64) e20, congrArg (Value.int .i64) e23, congrArg Value.bool hp, congrArg Value.bool hq, trivial⟩ ⟨codeOk_loop hs, codeOk_loop ha, codeOk_loop hb, codeOk_loop hd, codeOk_loop he, trivial⟩ (by kernel_rfl)
      | cons y1 r1 => exact memo_new (hs := [(1, .frz), (15, .val (.int .i64 (W (1 + W (Int.tmod D.br.x 6)))) (.int .i64 (bn : Nat))), (20, .val (.int .i64 (W (2 + W (Int.tmod D.st.x 5)))) (.int .i64 (tn : Nat))), (23, .val (.int .i64 (W ((bn : Int) + (tn : Int)))) (.int .i64 N)), (69, .val (.bool (decide ((bn : Int) > 2))) (.bool true)), (74, .val (.bool (Int.tmod D.br.x 2 == 0)) (.bool false))]) (ch := [⟨5, none, .loop (lp Try.prog 21 5), TT bn tn 6 0, [], HSt D N 7 [], 7, _, true⟩, ⟨9, none, .loop (lp Try.prog 21 9), TT bn tn 7 1, [], HT D N (y0 :: r0) 10 [], 10, _, true⟩, ⟨13, none, .loop (lp Try.prog 21 13), TT bn tn 8 0, [], HT D N (y0 :: r0) 10 (y1 :: r1), 18, _, true⟩, ⟨19, none, .loop (lp Try.prog 21 19), TT bn tn 9 0, [], HT D N (y0 :: r0) 18 (y2 :: r2), 26, _, true⟩, ⟨24, none, .loop (lp Try.prog 21 24), TT bn tn 10 0, [], HT D N (y0 :: r0) 33 (y4 :: r4), 41, _, true⟩]) (evk 50) special ⟨trivial, congrArg (Value.int .i64) e15, congrArg (Value.int .i64) e20, congrArg (Value.int .i64) e23, congrArg Value.bool hp, congrArg Value.bool hq, trivial⟩ ⟨codeOk_loop hs, codeOk_loop ha, codeOk_loop hb, codeOk_loop hd, codeOk_loop he, trivial⟩ (by kernel_rfl)
    · cases hpq
theorem core_same (hd0 : LoopOk Try.prog none (lp Try.prog 21 19) (TT bn tn 9 0) [] (HT D N (y0 :: r0) 18 (y2 :: r2)) 33 ⟨.exit 6, TTX bn tn, [], HT D N (y0 :: r0) 33 (y4 :: r4), 41⟩) (hp : decide ((bn : Int) > 2) = true) (hq : (Int.tmod D.br.x 2 == 0) = true)
    (hc : Hint.Ok Try.prog (.any (opAt Try.prog 21 17 4) [.func (.func 49) #[] #[], D.v, tvT N (y0 :: r0).length 18 (y2 :: r2), .int .i64 (W ((bn : Int) - 1)), .int .i64 0] (HT D N (y0 :: r0) 18 (y2 :: r2)) 26 (tvT N (y0 :: r0).length 18 (y2 :: r2))
      (hpK 18 (y2 :: r2) ([(7, .cells (bc (y0 :: r0)) false), (6, .cells (tcs N (y0 :: r0).length (slK 18 (y2 :: r2))) false), (5, .cells tzs false), (4, .cells D.cells true)] ++ roHp D.V)) 31)) : Memo.Ok Try.prog ⟨21, 4, [D.v], D.V, tvT N (y0 :: r0).length 41 (y5 :: r5), [(41, lcs (y5 :: r5)), (7, bc (y0 :: r0))], 50⟩ := by
  have hd := loopOk_low (m := 31) hd0 (by omega)
  cases A1 with
  | nil => exact memo_new (hs := [(1, .frz), (15, .val (.int .i64 (W (1 + W (Int.tmod D.br.x 6)))) (.int .i64 (bn : Nat))), (20, .val (.int .i64 (W (2 + W (Int.tmod D.st.x 5)))) (.int .i64 (tn : Nat))), (23, .val (.int .i64 (W ((bn : Int) + (tn : Int)))) (.int .i64 N)), (69, .val (.bool (decide ((bn : Int) > 2))) (.bool true)), (74, .val (.bool (Int.tmod D.br.x 2 == 0)) (.bool true)), (80, .any (opAt Try.prog 21 17 4) _ _ _ _ _ _)]) (ch := [⟨5, none, .loop (lp Try.prog 21 5), TT bn tn 6 0, [], HSt D N 7 [], 7, _, true⟩, ⟨9, none, .loop (lp Try.prog 21 9), TT bn tn 7 1, [], HT D N (y0 :: r0) 10 [], 10, _, true⟩, ⟨13, none, .loop (lp Try.prog 21 13), TT bn tn 8 0, [], HT D N (y0 :: r0) 10 [], 18, _, true⟩, ⟨19, none, .loop (lp Try.prog 21 19), TT bn tn 9 0, [], HT D N (y0 :: r0) 18 (y2 :: r2), 31, _, true⟩, ⟨24, none, .loop (lp Try.prog 21 24), TT bn tn 10 0, [], HT D N (y0 :: r0) 33 (y4 :: r4), 41, _, true⟩]) (evk 50) special ⟨trivial, congrArg (Value.int .i64) e15, congrArg (Value.int .i64) e20, congrArg (Value.int .i64) e23, congrArg Value.bool hp, congrArg Value.bool hq, hc, trivial⟩ ⟨codeOk_loop hs, codeOk_loop ha, codeOk_loop hb, codeOk_loop hd, codeOk_loop he, trivial⟩ (by kernel_rfl)
  | cons y1 r1 => exact memo_new (hs := [(1, .frz), (15, .val (.int .i64 (W (1 + W (Int.tmod D.br.x 6)))) (.int .i64 (bn : Nat))), (20, .val (.int .i64 (W (2 + W (Int.tmod D.st.x 5)))) (.int .i64 (tn : Nat))), (23, .val (.int .i64 (W ((bn : Int) + (tn : Int)))) (.int .i64 N)), (69, .val (.bool (decide ((bn : Int) > 2))) (.bool true)), (74, .val (.bool (Int.tmod D.br.x 2 == 0)) (.bool true)), (80, .any (opAt Try.prog 21 17 4) _ _ _ _ _ _)]) (ch := [⟨5, none, .loop (lp Try.prog 21 5), TT bn tn 6 0, [], HSt D N 7 [], 7, _, true⟩, ⟨9, none, .loop (lp Try.prog 21 9), TT bn tn 7 1, [], HT D N (y0 :: r0) 10 [], 10, _, true⟩, ⟨13, none, .loop (lp Try.prog 21 13), TT bn tn 8 0, [], HT D N (y0 :: r0) 10 (y1 :: r1), 18, _, true⟩, ⟨19, none, .loop (lp Try.prog 21 19), TT bn tn 9 0, [], HT D N (y0 :: r0) 18 (y2 :: r2), 31, _, true⟩, ⟨24, none, .loop (lp Try.prog 21 24), TT bn tn 10 0, [], HT D N (y0 :: r0) 33 (y4 :: r4), 41, _, true⟩]) (evk 50) special ⟨trivial, congrArg (Value.int .i64) e15, congrArg (Value.int .i64) e20, congrArg (Value.int .i64) e23, congrArg Value.bool hp, congrArg Value.bool hq, hc, trivial⟩ ⟨codeOk_loop hs, codeOk_loop ha, codeOk_loop hb, codeOk_loop hd, codeOk_loop he, trivial⟩ (by kernel_rfl)
theorem core_more (hd0 : LoopOk Try.prog none (lp Try.prog 21 19) (TT bn tn 9 0) [] (HT D N (y0 :: r0) 32 (y3 :: r3)) 33 ⟨.exit 6, TTX bn tn, [], HT D N (y0 :: r0) 33 (y4 :: r4), 41⟩) (hp : decide ((bn : Int) > 2) = true) (hq : (Int.tmod D.br.x 2 == 0) = true)
    (hc : Hint.Ok Try.prog (.any (opAt Try.prog 21 17 4) [.func (.func 49) #[] #[], D.v, tvT N (y0 :: r0).length 18 (y2 :: r2), .int .i64 (W ((bn : Int) - 1)), .int .i64 0] (HT D N (y0 :: r0) 18 (y2 :: r2)) 26 (tvT N (y0 :: r0).length 32 (y3 :: r3))
      (hpK 32 (y3 :: r3) ([(7, .cells (bc (y0 :: r0)) false), (6, .cells (tcs N (y0 :: r0).length (slK 18 (y2 :: r2))) false), (5, .cells tzs false), (4, .cells D.cells true)] ++ roHp D.V)) 33)) : Memo.Ok Try.prog ⟨21, 4, [D.v], D.V, tvT N (y0 :: r0).length 41 (y5 :: r5), [(41, lcs (y5 :: r5)), (7, bc (y0 :: r0))], 50⟩ := by
  have hd := loopOk_low (m := 33) hd0 (by omega)
  cases A1 with
  | nil => exact memo_new (hs := [(1, .frz), (15, .val (.int .i64 (W (1 + W (Int.tmod D.br.x 6)))) (.int .i64 (bn : Nat))), (20, .val (.int .i64 (W (2 + W (Int.tmod D.st.x 5)))) (.int .i64 (tn : Nat))), (23, .val (.int .i64 (W ((bn : Int) + (tn : Int)))) (.int .i64 N)), (69, .val (.bool (decide ((bn : Int) > 2))) (.bool true)), (74, .val (.bool (Int.tmod D.br.x 2 == 0)) (.bool true)), (80, .any (opAt Try.prog 21 17 4) _ _ _ _ _ _)]) (ch := [⟨5, none, .loop (lp Try.prog 21 5), TT bn tn 6 0, [], HSt D N 7 [], 7, _, true⟩, ⟨9, none, .loop (lp Try.prog 21 9), TT bn tn 7 1, [], HT D N (y0 :: r0) 10 [], 10, _, true⟩, ⟨13, none, .loop (lp Try.prog 21 13), TT bn tn 8 0, [], HT D N (y0 :: r0) 10 [], 18, _, true⟩, ⟨19, none, .loop (lp Try.prog 21 19), TT bn tn 9 0, [], HT D N (y0 :: r0) 32 (y3 :: r3), 33, _, true⟩, ⟨24, none, .loop (lp Try.prog 21 24), TT bn tn 10 0, [], HT D N (y0 :: r0) 33 (y4 :: r4), 41, _, true⟩]) (evk 50) special ⟨trivial, congrArg (Value.int .i64) e15, congrArg (Value.int .i64) e20, congrArg (Value.int .i64) e23, congrArg Value.bool hp, congrArg Value.bool hq, hc, trivial⟩ ⟨codeOk_loop hs, codeOk_loop ha, codeOk_loop hb, codeOk_loop hd, codeOk_loop he, trivial⟩ (by kernel_rfl)
  | cons y1 r1 => exact memo_new (hs := [(1, .frz), (15, .val (.int .i64 (W (1 + W (Int.tmod D.br.x 6)))) (.int .i64 (bn : Nat))), (20, .val (.int .i64 (W (2 + W (Int.tmod D.st.x 5)))) (.int .i64 (tn : Nat))), (23, .val (.int .i64 (W ((bn : Int) + (tn : Int)))) (.int .i64 N)), (69, .val (.bool (decide ((bn : Int) > 2))) (.bool true)), (74, .val (.bool (Int.tmod D.br.x 2 == 0)) (.bool true)), (80, .any (opAt Try.prog 21 17 4) _ _ _ _ _ _)]) (ch := [⟨5, none, .loop (lp Try.prog 21 5), TT bn tn 6 0, [], HSt D N 7 [], 7, _, true⟩, ⟨9, none, .loop (lp Try.prog 21 9), TT bn tn 7 1, [], HT D N (y0 :: r0) 10 [], 10, _, true⟩, ⟨13, none, .loop (lp Try.prog 21 13), TT bn tn 8 0, [], HT D N (y0 :: r0) 10 (y1 :: r1), 18, _, true⟩, ⟨19, none, .loop (lp Try.prog 21 19), TT bn tn 9 0, [], HT D N (y0 :: r0) 32 (y3 :: r3), 33, _, true⟩, ⟨24, none, .loop (lp Try.prog 21 24), TT bn tn 10 0, [], HT D N (y0 :: r0) 33 (y4 :: r4), 41, _, true⟩]) (evk 50) special ⟨trivial, congrArg (Value.int .i64) e15, congrArg (Value.int .i64) e20, congrArg (Value.int .i64) e23, congrArg Value.bool hp, congrArg Value.bool hq, hc, trivial⟩ ⟨codeOk_loop hs, codeOk_loop ha, codeOk_loop hb, codeOk_loop hd, codeOk_loop he, trivial⟩ (by kernel_rfl)
end
theorem tmod_nat {x m : Int} (hx : 0 ≤ x) (hm : 0 < m) : Int.tmod x m = x % m := Int.tmod_eq_emod_of_nonneg hx
def topoV (D : Dr) : Value := tvT (nnS D) (SS D).length 41 (L5 D)
theorem topo_0 (D : Dr) : Memo.Ok Try.prog ⟨21, 4, [D.v], D.V, topoV D, [(41, lcs (L5 D)), (7, bc (SS D))], 50⟩ := by
  have hb := bn_ok D
  have ht := tn_ok D
  have hbr := D.br.h
  have hst := D.st.h
  have hlen := SS_len D
  have hN : ((nnS D : Nat) : Int) = (SS D).length := by rw [hlen]
  have hS1 : (SS D).length ≤ 1000 := by rw [hlen]; unfold nnS; omega
  have e15 : W (1 + W (Int.tmod D.br.x 6)) = (bnS D : Nat) := by
    rw [tmod_nat hbr.1 (by omega), W_id (a := D.br.x % 6) (by omega), W_id (by omega)]; unfold bnS; omega
  have e20 : W (2 + W (Int.tmod D.st.x 5)) = (tnS D : Nat) := by
    rw [tmod_nat hst.1 (by omega), W_id (a := D.st.x % 5) (by omega), W_id (by omega)]; unfold tnS; omega
  have e23 : W ((bnS D : Int) + (tnS D : Int)) = (nnS D : Nat) := by rw [W_id (by omega)]; unfold nnS; push_cast; omega
  have hs := loopOk_of_L (sg_loop (D := D) (B := bnS D) (T := tnS D) (nn := nnS D) (by unfold nnS; omega) (nnS D) 0 [] (by omega) rfl)
  have ha := loopOk_of_L (la_loop (D := D) (bn := bnS D) (tn := tnS D) hN hS1 (by omega) (by omega) (by omega) (bnS D - 1) 1 [] (by omega) (by simp))
  have hbb := b_at10 (D := D) (bn := bnS D) (tn := tnS D) hN hS1 (by omega) (by omega) (by omega) (L1_len D)
  have hd1 := fun (h : (L3 D).length ≤ 24) => d_at18 (D := D) (bn := bnS D) (tn := tnS D) hN hS1 (by omega) (by omega) (by omega) h
  have hd2 := fun (h : (L3 D).length ≤ 24) => d_at32 (D := D) (bn := bnS D) (tn := tnS D) hN hS1 (by omega) (by omega) (by omega) h
  have he := e_at33 (D := D) (bn := bnS D) (tn := tnS D) hN hS1 (by omega) (by omega) (by omega) (L4_len D)
  have hd1 := hd1 (L3_len D)
  have hd2 := hd2 (L3_len D)
  have h3 : L3 D = bif closeB D then withS (SS D) (nnS D) D (L2 D) (W ((bnS D : Int) - 1)) 0 else L2 D := rfl
  have hcl : closeB D = (decide ((bnS D : Int) > 2) && (Int.tmod D.br.x 2 == 0)) := rfl
  have hwc := fun L' (h : withS (SS D) (nnS D) D (L2 D) (W ((bnS D : Int) - 1)) 0 = L') => any_call (o := opAt Try.prog 21 17 4) (cf := .func 49) (args := #[.tmp 76, .tmp 77, .tmp 79, .const (.int .i64 0)]) (ats := #[46, 25, 3, 3]) special (by kernel_rfl) (wc_call D hN hS1 (L := L2 D) (by have := L2_len D; omega) (W ((bnS D : Int) - 1)) 0 h)
  have hcases := withS_cases (SS D) (nnS D) D (L2 D) (W ((bnS D : Int) - 1)) 0
  change LoopOk _ _ _ _ _ _ _ ⟨.exit 0, _, [], HSt D (nnS D) 7 (SS D), 10⟩ at hs
  change LoopOk _ _ _ _ _ _ _ ⟨.exit 2, _, [], HT D (nnS D) (SS D) 10 (L1 D), 18⟩ at ha
  change LoopOk _ _ _ _ _ _ _ ⟨.exit 4, _, [], HT D (nnS D) (SS D) 18 (L2 D), 26⟩ at hbb
  change LoopOk _ _ _ _ _ _ _ ⟨.exit 6, _, [], HT D (nnS D) (SS D) 33 (L4 D), 41⟩ at hd1
  change LoopOk _ _ _ _ _ _ _ ⟨.exit 6, _, [], HT D (nnS D) (SS D) 33 (L4 D), 41⟩ at hd2
  change LoopOk _ _ _ _ _ _ _ ⟨.exit 8, _, [], HT D (nnS D) (SS D) 41 (L5 D), 50⟩ at he
  unfold topoV
  have hn2 := L2_ne D
  have hn3 := L3_ne D
  have hn4 := L4_ne D
  have hn5 := L5_ne D
  have hSn : SS D ≠ [] := by intro e; rw [e] at hlen; simp at hlen; unfold nnS at hlen; omega
  obtain ⟨y0, r0, q0⟩ := List.exists_cons_of_ne_nil hSn
  obtain ⟨y2, r2, q2⟩ := List.exists_cons_of_ne_nil hn2
  obtain ⟨y4, r4, q4⟩ := List.exists_cons_of_ne_nil hn4
  obtain ⟨y5, r5, q5⟩ := List.exists_cons_of_ne_nil hn5
  rw [q5] at he ⊢
  rw [q4] at hd1 hd2 he
  rw [q2] at hbb hwc hcases h3
  rw [q0] at hs ha hbb hd1 hd2 he hwc hcases h3 ⊢
  generalize L1 D = A1 at ha hbb
  have e23' : W ((bnS D : Int) + (tnS D : Int)) = ((nnS D : Nat) : Int) := e23
  cases hp : decide ((bnS D : Int) > 2) with
  | false =>
    rw [hcl, hp] at h3
    rw [show L3 D = y2 :: r2 from h3] at hd1
    exact core_no e15 e20 e23' hs ha hbb he hd1 hp (q := (Int.tmod D.br.x 2 == 0)) rfl rfl
  | true =>
    cases hq : (Int.tmod D.br.x 2 == 0) with
    | false =>
      rw [hcl, hp, hq] at h3
      rw [show L3 D = y2 :: r2 from h3] at hd1
      exact core_no e15 e20 e23' hs ha hbb he hd1 hp hq rfl
    | true =>
      rw [hcl, hp, hq] at h3
      simp only [Bool.and_self, cond_true] at h3
      rcases hcases with hc | hc
      · have hw := hwc _ hc
        rw [hc] at h3
        rw [h3] at hd1
        rw [show wkc (y2 :: r2) (y2 :: r2) = 18 by simp [wkc], show wnc (y2 :: r2) (y2 :: r2) = 31 by simp [wnc]] at hw
        exact core_same e15 e20 e23' hs ha hbb he hd1 hp hq hw
      · have hw := hwc _ hc
        rw [hc] at h3
        have hne : ((y2 :: r2).length + 1 == (y2 :: r2).length) = false := beq_eq_false_iff_ne.2 (by omega)
        have k1 : ∀ l, wkc (y2 :: r2) ((y2 :: r2) ++ [l]) = 32 := fun l => by unfold wkc; rw [List.length_append, show [l].length = 1 from rfl, hne]; rfl
        have k2 : ∀ l, wnc (y2 :: r2) ((y2 :: r2) ++ [l]) = 33 := fun l => by unfold wnc; rw [List.length_append, show [l].length = 1 from rfl, hne]; rfl
        rw [k1, k2] at hw
        obtain ⟨y3, r3, q3⟩ := pushL (y2 :: r2) (mkL D (y2 :: r2).length (W ((bnS D : Int) - 1)) 0)
        rw [q3] at hw h3
        rw [h3] at hd2
        exact core_more e15 e20 e23' hs ha hbb he hd2 hp hq hw
end Go.Proofs.Ytkngbmaomgfcjaa.topo
/- Plain: the topology of a draft is valid. -/
namespace Go.Proofs.Ytkngbmaomgfcjaa.topo
open Go Go.En
set_option linter.unusedVariables false

def deg : List Lk → Nat → Nat
  | [], _ => 0
  | l :: r, x => ((bif l.a == x then 1 else 0) + (bif l.b == x then 1 else 0)) + deg r x
theorem deg_app (L : List Lk) (l : Lk) (x : Nat) : deg (L ++ [l]) x = deg L x + ((bif l.a == x then 1 else 0) + (bif l.b == x then 1 else 0)) := by
  induction L with
  | nil => simp [deg]
  | cons y r ih => simp only [List.cons_append, deg, ih]; omega
theorem deg_zero {L : List Lk} {x : Nat} (h : deg L x = 0) : ∀ o ∈ L, o.a ≠ x ∧ o.b ≠ x := by
  induction L with
  | nil => intro o ho; cases ho
  | cons y r ih =>
    simp only [deg] at h
    intro o ho
    rcases List.mem_cons.1 ho with rfl | ho
    · have h1 : (bif o.a == (x : Int) then 1 else 0) = 0 := by omega
      have h2 : (bif o.b == (x : Int) then 1 else 0) = 0 := by omega
      refine ⟨fun e => ?_, fun e => ?_⟩
      · rw [e] at h1; simp at h1
      · rw [e] at h2; simp at h2
    · exact ih (by omega) o ho
theorem deg_le (L : List Lk) (x : Nat) : deg L x ≤ 2 * L.length := by
  induction L with
  | nil => simp [deg]
  | cons y r ih =>
    simp only [deg, List.length_cons]
    cases (y.a == (x : Int)) <;> cases (y.b == (x : Int)) <;> simp <;> omega
theorem inc_getD {D : List Int} {a x : Nat} (ha : a < D.length) (hb : 0 ≤ D.getD a 0 ∧ D.getD a 0 < 1000000) : (inc D a).getD x 0 = D.getD x 0 + (bif (a : Int) == x then 1 else 0) := by
  unfold inc
  rw [show IntKind.i64.wrap (D.getD a 0 + 1) = D.getD a 0 + 1 from W_id (by omega)]
  simp only [List.getD_eq_getElem?_getD, List.getElem?_set]
  by_cases h : a = x
  · subst h
    simp [ha]
  · have h' : ((a : Int) == x) = false := by simp; omega
    simp [h, h']
theorem cnt_getD {n : Nat} : ∀ {L : List Lk} {D : List Int} (B : Nat), D.length = n → (∀ l ∈ L, Ends n l) → (∀ x, 0 ≤ D.getD x 0 ∧ D.getD x 0 ≤ B) → B + 2 * L.length < 1000000 → ∀ x, (cnt L D).getD x 0 = D.getD x 0 + deg L x
  | [], D, B, _, _, _, _, x => by simp [cnt, deg]
  | l :: r, D, B, hn, he, hD, hB, x => by
    obtain ⟨e1, e2, e3, e4⟩ := he l (by simp)
    simp only [List.length_cons] at hB
    obtain ⟨a, ha⟩ : ∃ a : Nat, l.a = a := ⟨l.a.toNat, by omega⟩
    obtain ⟨b, hb⟩ : ∃ b : Nat, l.b = b := ⟨l.b.toNat, by omega⟩
    have f1 : ∀ x, (inc D a).getD x 0 = D.getD x 0 + (bif (a : Int) == x then 1 else 0) := fun x => inc_getD (by omega) (by have := hD a; omega)
    have b1 : ∀ x : Nat, (0 : Int) ≤ (bif (a : Int) == x then 1 else 0) ∧ (bif (a : Int) == x then (1 : Int) else 0) ≤ 1 := fun x => by cases ((a : Int) == x) <;> simp
    have b2 : ∀ x : Nat, (0 : Int) ≤ (bif (b : Int) == x then 1 else 0) ∧ (bif (b : Int) == x then (1 : Int) else 0) ≤ 1 := fun x => by cases ((b : Int) == x) <;> simp
    have f2 : ∀ x, (inc (inc D a) b).getD x 0 = D.getD x 0 + (bif (a : Int) == x then 1 else 0) + (bif (b : Int) == x then 1 else 0) := fun x => by
      rw [inc_getD (by rw [inc_len]; omega) (by rw [f1]; have := hD b; have := b1 b; omega), f1]
    simp only [cnt, deg, ha, hb, Int.toNat_natCast]
    rw [cnt_getD (B + 2) (by rw [inc_len, inc_len]; exact hn) (fun l hl => he l (by simp [hl])) (fun x => by rw [f2]; have := hD x; have := b1 x; have := b2 x; constructor <;> push_cast <;> omega) (by omega) x, f2]
    cases ((a : Int) == x) <;> cases ((b : Int) == x) <;> simp <;> omega
/-- Every link is valid, and no earlier one joins the same nodes. -/
def GoodL (S : List Bool) (N : Int) (L : List Lk) : Prop := ∀ (i : Nat) l, L[i]? = some l → linkS S N l = true ∧ ∀ (j : Nat) o, j < i → L[j]? = some o → joinsS o l.a l.b = false
theorem GoodL.nil {S : List Bool} {N : Int} : GoodL S N [] := fun i l h => by simp at h
theorem GoodL.push {S : List Bool} {N : Int} {L : List Lk} {l : Lk} (h : GoodL S N L) (h1 : linkS S N l = true) (h2 : (L.any fun o => joinsS o l.a l.b) = false) : GoodL S N (L ++ [l]) := by
  intro i k hk
  by_cases hi : i < L.length
  · rw [List.getElem?_append_left hi] at hk
    refine ⟨(h i k hk).1, fun j o hj ho => ?_⟩
    rw [List.getElem?_append_left (by omega)] at ho
    exact (h i k hk).2 j o hj ho
  · have hi2 := (List.getElem?_eq_some_iff.1 hk).1
    simp at hi2
    have : i = L.length := by omega
    subst this
    simp at hk
    subst hk
    refine ⟨h1, fun j o hj ho => ?_⟩
    rw [List.getElem?_append_left (by omega)] at ho
    have hm : o ∈ L := List.mem_of_getElem? ho
    rw [List.any_eq_false] at h2
    simpa using h2 o hm
theorem GoodL.with {S : List Bool} {N : Int} {D : Dr} {L : List Lk} {a b : Int} (h : GoodL S N L) : GoodL S N (withS S N D L a b) := by
  unfold withS
  cases ((L.length : Int) == 24) with
  | true => exact h
  | false =>
    cases h1 : linkS S N (mkL D L.length a b) with
    | false => exact h
    | true =>
      cases h2 : (L.any fun o => joinsS o a b) with
      | true => exact h
      | false => exact h.push h1 h2
theorem GoodL.sound {X : Cx} (h : GoodL X.S X.N X.ls) : soundS X = true := by
  have key : ∀ (r : List Lk) (i : Nat), (∀ j, r[j]? = X.ls[i + j]?) → sndGo X r i = true := by
    intro r
    induction r with
    | nil => intro i _; rfl
    | cons l r ih =>
      intro i hr
      have h0 : X.ls[i]? = some l := by have := hr 0; simpa using this.symm
      obtain ⟨h1, h2⟩ := h i l h0
      simp only [sndGo, ih (i + 1) (fun j => by have := hr (j + 1); simpa [Nat.add_assoc, Nat.add_comm 1 j] using this), Bool.and_true]
      unfold linkS at h1
      unfold linkOk
      simp only [Bool.and_eq_true] at h1 ⊢
      refine ⟨h1.1, h1.2.1, ?_, h1.2.2⟩
      unfold k3
      rw [Bool.not_eq_true', List.any_eq_false]
      intro o ho
      obtain ⟨j, hj, rfl⟩ := List.getElem_of_mem ho
      simp only [List.length_take] at hj
      have hjl : j < X.ls.length := by omega
      have hjo := h2 j X.ls[j] (by omega) (List.getElem?_eq_getElem hjl)
      rw [List.getElem_take]
      intro hd
      unfold joinsS at hjo
      unfold dup at hd
      simp only [Bool.or_eq_true, Bool.and_eq_true, beq_iff_eq] at hd
      simp only [Bool.or_eq_false_iff, Bool.and_eq_false_iff, beq_eq_false_iff_ne, ne_eq] at hjo
      omega
  exact key X.ls 0 (fun j => by simp)
theorem cut0_get (i : Nat) : cut0.getD i false = false := by
  unfold cut0
  simp only [List.getD_eq_getElem?_getD, List.getElem?_replicate]
  split <;> rfl
theorem rstep_mono {C : List Bool} {i : Nat} {l : Lk} {R : List Bool} {x : Nat} (h : R.getD x false = true) : (rstep C i l R).getD x false = true := by
  unfold rstep
  cases (!C.getD i false && (R.getD l.a.toNat false != R.getD l.b.toNat false)) with
  | false => exact h
  | true =>
    simp only [cond_true, List.getD_eq_getElem?_getD, List.getElem?_set, List.length_set] at h ⊢
    repeat' split
    all_goals first | rfl | exact h | (rename_i hx; exfalso; rw [List.getElem?_eq_none (by omega)] at h; simp at h)
theorem rgo_mono {C : List Bool} {x : Nat} : ∀ {L : List Lk} {i : Nat} {R : List Bool}, R.getD x false = true → (rgo C L i R).getD x false = true
  | [], _, _, h => h
  | _ :: r, _, _, h => rgo_mono (L := r) (rstep_mono h)
theorem rIter_mono {C : List Bool} {ls : List Lk} {x : Nat} : ∀ {n : Nat} {R : List Bool}, R.getD x false = true → (rIter C ls n R).getD x false = true
  | 0, _, h => h
  | n + 1, _, h => rIter_mono (n := n) (rgo_mono h)
theorem rgo_app (C : List Bool) (l : Lk) : ∀ (L : List Lk) (i : Nat) (R : List Bool), rgo C (L ++ [l]) i R = rstep C (i + L.length) l (rgo C L i R)
  | [], i, R => by simp [rgo]
  | y :: r, i, R => by
    simp only [List.cons_append, rgo, rgo_app C l r, List.length_cons]
    rw [show i + 1 + r.length = i + (r.length + 1) by omega]
theorem rstep_both {C : List Bool} {i : Nat} {l : Lk} {R : List Bool} (hc : C.getD i false = false) (he : Ends R.length l) : (rstep C i l R).getD l.a.toNat false = (R.getD l.a.toNat false || R.getD l.b.toNat false) ∧ (rstep C i l R).getD l.b.toNat false = (R.getD l.a.toNat false || R.getD l.b.toNat false) := by
  obtain ⟨e1, e2, e3, e4⟩ := he
  unfold rstep
  rw [hc]
  have h1 : l.a.toNat < R.length := by omega
  have h2 : l.b.toNat < R.length := by omega
  have s1 : ((R.set l.a.toNat true).set l.b.toNat true).getD l.a.toNat false = true := by
    simp only [List.getD_eq_getElem?_getD, List.getElem?_set, List.length_set, h1, h2, if_true]
    split <;> rfl
  have s2 : ((R.set l.a.toNat true).set l.b.toNat true).getD l.b.toNat false = true := by
    simp only [List.getD_eq_getElem?_getD, List.getElem?_set, List.length_set, h2, if_true]
    rfl
  generalize hx : R.getD l.a.toNat false = x
  generalize hy : R.getD l.b.toNat false = y
  cases x <;> cases y
  · exact ⟨hx, hy⟩
  · exact ⟨s1, s2⟩
  · exact ⟨s1, s2⟩
  · exact ⟨hx, hy⟩
theorem findF_none : ∀ {R : List Bool} {i : Nat}, (∀ x, x < R.length → R.getD x false = true) → findF R i = none
  | [], _, _ => rfl
  | b :: r, i, h => by
    have h0 : b = true := by have := h 0 (by simp); simpa using this
    subst h0
    simp only [findF, cond_true]
    exact findF_none fun x hx => by have := h (x + 1) (by simpa using hx); simpa using this
theorem stBad_no {D : List Int} : ∀ {S : List Bool} {i : Nat}, (∀ x, x < S.length → S.getD x false = true → 1 ≤ D.getD (i + x) 0 ∧ D.getD (i + x) 0 ≤ 2) → stBad D S i = false
  | [], _, _ => rfl
  | s :: r, i, h => by
    simp only [stBad]
    rw [stBad_no (S := r) (i := i + 1) fun x hx hs => by have := h (x + 1) (by simpa using hx) (by simpa using hs); rwa [show i + 1 + x = i + (x + 1) by omega]]
    cases s with
    | false => rfl
    | true =>
      have := h 0 (by simp) (by simp)
      rw [Nat.add_zero] at this
      unfold badSt
      simp only [Bool.or_false, Bool.true_and, Bool.or_eq_false_iff, decide_eq_false_iff_not]
      omega
/-! ### The draft's links -/
section
variable {D : Dr}
def R0 (n : Nat) : List Bool := (List.replicate n false).set 0 true
theorem R0_len (n : Nat) : (R0 n).length = n := by simp [R0]
/-- The first links: a tree over the nodes below m. -/
structure InvA (D : Dr) (m : Nat) (L : List Lk) : Prop where
  good : GoodL (SS D) (nnS D) L
  len : L.length + 1 = m
  zero : ∀ x, m ≤ x → deg L x = 0
  all : ∀ x, x < m → (rgo cut0 L 0 (R0 (nnS D))).getD x false = true
  one : ∀ x, bnS D ≤ x → x < m → deg L x = 1
  pos : 2 ≤ m → ∀ x, x < m → 1 ≤ deg L x
theorem add_yes {L : List Lk} {a b : Nat} {z : Nat} (hz : deg L z = 0) (hzab : z = a ∨ z = b) (hL : L.length < 24) (ha : a < nnS D) (hb : b < nnS D) (hab : a ≠ b) (hs : a < bnS D ∨ b < bnS D) : withS (SS D) (nnS D) D L a b = L ++ [mkL D L.length a b] := by
  unfold withS
  have h1 : ((L.length : Int) == 24) = false := by simp; omega
  have h2 : linkS (SS D) (nnS D) (mkL D L.length a b) = true := linkS_iff D ha hb hab hs
  have h3 : (L.any fun o => joinsS o a b) = false := by
    rw [List.any_eq_false]
    intro o ho
    have := deg_zero hz o ho
    unfold joinsS
    simp only [Bool.or_eq_true, Bool.and_eq_true, beq_iff_eq]
    rcases hzab with rfl | rfl <;> omega
  rw [h1, h2, h3]; rfl
theorem deg_mk (L : List Lk) (n a b x : Nat) : deg (L ++ [mkL D n a b]) x = deg L x + ((if a = x then 1 else 0) + (if b = x then 1 else 0)) := by
  rw [deg_app]
  have e1 : (mkL D n a b).a = a := rfl
  have e2 : (mkL D n a b).b = b := rfl
  rw [e1, e2]
  have f : ∀ c : Nat, (bif (c : Int) == (x : Int) then 1 else 0) = (if c = x then 1 else 0) := fun c => by
    by_cases h : c = x
    · subst h; simp
    · have h' : ((c : Int) == x) = false := by simp; omega
      rw [h']; simp [h]
  rw [f, f]
theorem InvA.step {m h a b : Nat} {L : List Lk} (I : InvA D m L) (hm : m < nnS D) (hh : h < m) (hb : bnS D ≤ m → h < bnS D) (hab : (a = h ∧ b = m) ∨ (a = m ∧ b = h)) : InvA D (m + 1) (withS (SS D) (nnS D) D L a b) := by
  have hbn := bn_ok D
  have htn := tn_ok D
  have hnn : nnS D = bnS D + tnS D := rfl
  have hw : withS (SS D) (nnS D) D L a b = L ++ [mkL D L.length a b] := add_yes (z := m) (I.zero m (Nat.le_refl m)) (by omega) (by have := I.len; omega) (by omega) (by omega) (by omega) (by omega)
  have hE : Ends (rgo cut0 L 0 (R0 (nnS D))).length (mkL D L.length a b) := by
    rw [rgo_len, R0_len]
    show 0 ≤ (a : Int) ∧ (a : Int) < nnS D ∧ 0 ≤ (b : Int) ∧ (b : Int) < nnS D
    omega
  have pos : 2 ≤ m + 1 → ∀ x, x < m + 1 → 1 ≤ deg (withS (SS D) (nnS D) D L a b) x := fun _ x hx => by
    rw [hw, deg_mk]
    by_cases hxm : x = m
    · have : 1 ≤ (if a = x then 1 else 0) + (if b = x then 1 else 0) := by
        rcases hab with ⟨rfl, rfl⟩ | ⟨rfl, rfl⟩
        · rw [if_pos (show b = x by omega)]; omega
        · rw [if_pos (show a = x by omega)]; omega
      omega
    · by_cases hm2 : 2 ≤ m
      · have := I.pos hm2 x (by omega); omega
      · have : 1 ≤ (if a = x then 1 else 0) + (if b = x then 1 else 0) := by
          rcases hab with ⟨rfl, rfl⟩ | ⟨rfl, rfl⟩
          · rw [if_pos (show a = x by omega)]; omega
          · rw [if_pos (show b = x by omega)]; omega
        omega
  refine ⟨I.good.with, ?_, fun x hx => ?_, fun x hx => ?_, fun x h1 h2 => ?_, pos⟩
  · rw [hw]; have := I.len; simp; omega
  · rw [hw, deg_mk, I.zero x (by omega)]
    rw [if_neg (by omega), if_neg (by omega)]
  · rw [hw, rgo_app]
    by_cases hxm : x < m
    · exact rstep_mono (I.all x hxm)
    · have hxm : x = m := by omega
      subst hxm
      obtain ⟨q1, q2⟩ := rstep_both (C := cut0) (i := 0 + L.length) (cut0_get _) hE
      have hr := I.all h hh
      rcases hab with ⟨rfl, rfl⟩ | ⟨rfl, rfl⟩
      · have e : (mkL D L.length a b).a.toNat = a := by show ((a : Nat) : Int).toNat = a; omega
        have e' : (mkL D L.length a b).b.toNat = b := by show ((b : Nat) : Int).toNat = b; omega
        rw [e, e'] at q2
        rw [q2, hr]; rfl
      · have e : (mkL D L.length a b).a.toNat = a := by show ((a : Nat) : Int).toNat = a; omega
        have e' : (mkL D L.length a b).b.toNat = b := by show ((b : Nat) : Int).toNat = b; omega
        rw [e, e'] at q1
        rw [q1, hr, Bool.or_true]
  · rw [hw, deg_mk]
    by_cases hxm : x = m
    · subst hxm
      rw [I.zero x (Nat.le_refl x)]
      have : (if a = x then 1 else 0) + (if b = x then 1 else 0) = 1 := by
        rcases hab with ⟨rfl, rfl⟩ | ⟨rfl, rfl⟩
        · rw [if_neg (by omega), if_pos rfl]
        · rw [if_pos rfl, if_neg (by omega)]
      omega
    · have hxm2 : x < m := by omega
      rw [I.one x h1 hxm2, if_neg (by have := hb (by omega); omega), if_neg (by have := hb (by omega); omega)]
theorem itr_inv {f : Nat → List Lk → List Lk} {Q : Nat → List Lk → Prop} {hi : Nat} (hf : ∀ i L, i < hi → Q i L → Q (i + 1) (f i L)) : ∀ (k i : Nat) (L : List Lk), i + k = hi → Q i L → Q hi (itr f k i L)
  | 0, i, L, h, hq => by have : i = hi := by omega
                         subst this; exact hq
  | k + 1, i, L, h, hq => itr_inv hf k (i + 1) _ (by omega) (hf i L (by omega) hq)
theorem L1_inv (D : Dr) : InvA D (bnS D) (L1 D) := by
  have hbn := bn_ok D
  have htn := tn_ok D
  have hnn : nnS D = bnS D + tnS D := rfl
  unfold L1
  refine itr_inv (Q := fun i L => 1 ≤ i ∧ InvA D i L) (fun i L hi hq => ?_) (bnS D - 1) 1 [] (by omega) ⟨Nat.le_refl 1, ⟨GoodL.nil, rfl, fun _ _ => rfl, fun x hx => ?_, fun x h1 h2 => by omega, fun h => by omega⟩⟩ |>.2
  · refine ⟨by omega, ?_⟩
    unfold fA
    rw [show (i : Int) - 1 = ((i - 1 : Nat) : Int) by omega, wrapN (by omega)]
    exact hq.2.step (h := i - 1) (by omega) (by omega) (by omega) (.inl ⟨rfl, rfl⟩)
  · have : x = 0 := by omega
    subst this
    simp only [rgo, R0]
    have : 0 < nnS D := by omega
    simp [List.getD_eq_getElem?_getD, this]
theorem L2_inv (D : Dr) : InvA D (nnS D) (L2 D) := by
  have hbn := bn_ok D
  have htn := tn_ok D
  have hnn : nnS D = bnS D + tnS D := rfl
  unfold L2
  have := itr_inv (hi := tnS D) (Q := fun s L => InvA D (bnS D + s) L) (f := fB (SS D) (nnS D) D (bnS D)) (fun s L hs hq => ?_) (tnS D) 0 (L1 D) (by omega) (L1_inv D)
  · exact this
  · unfold fB
    obtain ⟨m, hm, hm2⟩ := homeB D (pickS D.ho (2 * s)) (pickS_ok _ _).1
    rw [hm, show (bnS D : Int) + (s : Int) = ((bnS D + s : Nat) : Int) by push_cast; rfl, wrapN (by omega)]
    exact hq.step (h := m) (by omega) (by omega) (by omega) (.inr ⟨rfl, rfl⟩)
/-- All links: every node is reached; stations have one or two links. -/
structure InvB (D : Dr) (s : Nat) (L : List Lk) : Prop where
  good : GoodL (SS D) (nnS D) L
  all : ∀ x, x < nnS D → (rgo cut0 L 0 (R0 (nnS D))).getD x false = true
  lo : ∀ x, bnS D ≤ x → x < nnS D → 1 ≤ deg L x
  hi : ∀ x, bnS D ≤ x → x < nnS D → deg L x ≤ 2
  one : ∀ x, bnS D + s ≤ x → x < nnS D → deg L x = 1
  pos : ∀ x, x < nnS D → 1 ≤ deg L x
theorem InvB.step {s a b : Nat} {L : List Lk} (I : InvB D s L) (ha : a < bnS D ∨ a = bnS D + s) (hb : b < bnS D) : InvB D (s + 1) (withS (SS D) (nnS D) D L a b) ∧ (a < bnS D → InvB D s (withS (SS D) (nnS D) D L a b)) := by
  have hw := withS_cases (SS D) (nnS D) D L a b
  have good : GoodL (SS D) (nnS D) (withS (SS D) (nnS D) D L a b) := I.good.with
  have h1 : InvB D (s + 1) L := ⟨I.good, I.all, I.lo, I.hi, fun x h1 h2 => I.one x (by omega) h2, I.pos⟩
  rcases hw with hw | hw
  · rw [hw]; exact ⟨h1, fun _ => I⟩
  · rw [hw] at good ⊢
    have all : ∀ x, x < nnS D → (rgo cut0 (L ++ [mkL D L.length a b]) 0 (R0 (nnS D))).getD x false = true := fun x hx => by rw [rgo_app]; exact rstep_mono (I.all x hx)
    have dg : ∀ x, bnS D ≤ x → deg (L ++ [mkL D L.length a b]) x = deg L x + (if a = x then 1 else 0) := fun x hx => by rw [deg_mk, if_neg (show ¬ b = x by omega), Nat.add_zero]
    have pos : ∀ x, x < nnS D → 1 ≤ deg (L ++ [mkL D L.length a b]) x := fun x hx => by rw [deg_mk]; have := I.pos x hx; omega
    refine ⟨⟨good, all, fun x h1 h2 => ?_, fun x h1 h2 => ?_, fun x h1 h2 => ?_, pos⟩, fun hal => ⟨good, all, fun x h1 h2 => ?_, fun x h1 h2 => ?_, fun x h1 h2 => ?_, pos⟩⟩
    · rw [dg x h1]; have := I.lo x h1 h2; omega
    · rw [dg x h1]
      by_cases hx : a = x
      · rw [if_pos hx, I.one x (by omega) h2]; omega
      · rw [if_neg hx]; have := I.hi x h1 h2; omega
    · rw [dg x (by omega), if_neg (by omega), I.one x (by omega) h2]
    · rw [dg x h1]; have := I.lo x h1 h2; omega
    · rw [dg x h1, if_neg (by omega)]; have := I.hi x h1 h2; omega
    · rw [dg x (by omega), if_neg (by omega), I.one x (by omega) h2]
theorem L3_inv (D : Dr) : InvB D 0 (L3 D) := by
  have hbn := bn_ok D
  have I := L2_inv D
  have J : InvB D 0 (L2 D) := ⟨I.good, I.all, fun x h1 h2 => by rw [I.one x h1 h2]; omega, fun x h1 h2 => by rw [I.one x h1 h2]; omega, fun x h1 h2 => I.one x (by omega) h2, I.pos (by have := tn_ok D; unfold nnS; omega)⟩
  unfold L3
  cases closeB D with
  | false => exact J
  | true =>
    simp only [cond_true]
    rw [show (bnS D : Int) - 1 = ((bnS D - 1 : Nat) : Int) by omega, wrapN (by omega)]
    exact (J.step (a := bnS D - 1) (b := 0) (.inl (by omega)) (by omega)).2 (by omega)
theorem L4_inv (D : Dr) : InvB D (tnS D) (L4 D) := by
  have hbn := bn_ok D
  have htn := tn_ok D
  have hnn : nnS D = bnS D + tnS D := rfl
  unfold L4
  refine itr_inv (Q := InvB D) (fun s L hs hq => ?_) (tnS D) 0 (L3 D) (by omega) (L3_inv D)
  unfold fD
  cases decide (Int.tmod (pickS D.ho (2 * s + 1)) 3 > 0) with
  | false => exact ⟨hq.good, hq.all, hq.lo, hq.hi, fun x h1 h2 => hq.one x (by omega) h2, hq.pos⟩
  | true =>
    simp only [cond_true]
    obtain ⟨m, hm, hm2⟩ := homeB D (pickS D.ho (2 * s + 1)) (pickS_ok _ _).1
    rw [hm, show (bnS D : Int) + (s : Int) = ((bnS D + s : Nat) : Int) by push_cast; rfl, wrapN (by omega)]
    exact (hq.step (.inr rfl) hm2).1
theorem L5_inv (D : Dr) : InvB D (tnS D) (L5 D) := by
  unfold L5
  refine itr_inv (hi := nch D) (Q := fun _ => InvB D (tnS D)) (fun s L hs hq => ?_) (nch D) 0 (L4 D) (by omega) (L4_inv D)
  unfold fE
  obtain ⟨m, hm, hm2⟩ := homeB D (pickS D.ch (2 * s)) (pickS_ok _ _).1
  obtain ⟨m', hm', hm2'⟩ := homeB D (pickS D.ch (2 * s + 1)) (pickS_ok _ _).1
  rw [hm, hm']
  exact (hq.step (.inl hm2) hm2').2 hm2
end
/-- The topology of a draft is valid. -/
theorem check_draft {X : Cx} {D : Dr} (hN : X.N = nnS D) (hS : X.S = SS D) (hl : X.ls = L5 D) : checkS X = true := by
  have hbn := bn_ok D
  have htn := tn_ok D
  have hnn : nnS D = bnS D + tnS D := rfl
  have hlen := L5_len D
  have I := L5_inv D
  have hSl : X.S.length = nnS D := by rw [hS]; exact SS_len D
  have hg : GoodL X.S X.N X.ls := by rw [hN, hS, hl]; exact I.good
  have hE : ∀ l ∈ X.ls, Ends X.S.length l := fun l hm => by
    obtain ⟨j, hj, rfl⟩ := List.getElem_of_mem hm
    have := (hg j _ (List.getElem?_eq_getElem hj)).1
    unfold linkS at this
    simp only [Bool.and_eq_true] at this
    have := ends_of this.1
    rw [hN] at this
    rw [hSl]; exact this
  have c1 : firstS X = true := by
    unfold firstS
    rw [hN, hSl, hl]
    simp
    omega
  have c3 : stBad (cntS X) X.S 0 = false := by
    refine stBad_no fun x hx hs => ?_
    unfold cntS
    rw [cnt_getD (n := X.S.length) 0 (by simp) hE (fun x => by simp [List.getD_eq_getElem?_getD, List.getElem?_replicate]; split <;> simp) (by rw [hl]; omega)]
    have h0 : (List.replicate X.S.length (0 : Int)).getD (0 + x) 0 = 0 := by simp [List.getD_eq_getElem?_getD, List.getElem?_replicate]; split <;> simp
    rw [h0, hl, Nat.zero_add]
    have hb : bnS D ≤ x := by
      rw [hS] at hs
      unfold SS at hs
      rw [stR_get _ _ _ _ (by omega)] at hs
      simp at hs
      exact hs
    have h1 := I.lo x hb (by omega)
    have h2 := I.hi x hb (by omega)
    omega
  have c4 : allS X = none := by
    unfold allS reachS
    refine findF_none fun x hx => ?_
    rw [rIter_len] at hx
    simp at hx
    rw [hSl] at hx ⊢
    obtain ⟨k, hk⟩ : ∃ k, nnS D = k + 1 := ⟨nnS D - 1, by omega⟩
    have := I.all x hx
    rw [← hl] at this
    unfold R0 at this
    rw [show rIter cut0 X.ls (nnS D) ((List.replicate (nnS D) false).set 0 true) = rIter cut0 X.ls k (rgo cut0 X.ls 0 ((List.replicate (nnS D) false).set 0 true)) by rw [hk]; rfl]
    exact rIter_mono this
  unfold checkS lateS
  rw [c1, hg.sound, c3, c4]; rfl
end Go.Proofs.Ytkngbmaomgfcjaa.topo
/- Plain: what is reached is the least closed set; reachability is an equivalence. -/
namespace Go.Proofs.Ytkngbmaomgfcjaa.topo
open Go Go.En
set_option linter.unusedVariables false

/-! ### Reachability: the least closed set -/
def tru : List Bool → Nat
  | [] => 0
  | b :: r => (bif b then 1 else 0) + tru r
theorem tru_le : ∀ R : List Bool, tru R ≤ R.length
  | [] => Nat.le_refl 0
  | b :: r => by have := tru_le r; cases b <;> simp [tru] <;> omega
theorem tru_set : ∀ {R : List Bool} {a : Nat}, a < R.length → tru (R.set a true) = tru R + (bif R.getD a false then 0 else 1)
  | [], a, h => by simp at h
  | b :: r, 0, h => by cases b <;> simp [tru]; omega
  | b :: r, a + 1, h => by
    have := tru_set (R := r) (a := a) (by simpa using h)
    simp only [List.set_cons_succ, tru, this, List.getD_cons_succ]
    omega
/-- Over a link that is left both ends belong to the set, or none. -/
def ClosedL (C : List Bool) (i : Nat) (L : List Lk) (T : Nat → Bool) : Prop := ∀ (j : Nat) l, L[j]? = some l → C.getD (i + j) false = false → T l.a.toNat = T l.b.toNat
theorem rstep_id {C : List Bool} {i : Nat} {l : Lk} {R : List Bool} (h : C.getD i false = false → R.getD l.a.toNat false = R.getD l.b.toNat false) : rstep C i l R = R := by
  unfold rstep
  cases hc : C.getD i false with
  | true => rfl
  | false => rw [h hc]; simp
theorem rstep_tru {C : List Bool} {i : Nat} {l : Lk} {R : List Bool} (he : Ends R.length l) : rstep C i l R = R ∧ (C.getD i false = false → R.getD l.a.toNat false = R.getD l.b.toNat false) ∨ tru R < tru (rstep C i l R) := by
  obtain ⟨e1, e2, e3, e4⟩ := he
  have h1 : l.a.toNat < R.length := by omega
  have h2 : l.b.toNat < R.length := by omega
  cases hc : C.getD i false with
  | true => exact .inl ⟨rstep_id (fun h => by rw [hc] at h; cases h), fun h => by cases h⟩
  | false =>
    by_cases hab : R.getD l.a.toNat false = R.getD l.b.toNat false
    · exact .inl ⟨rstep_id (fun _ => hab), fun _ => hab⟩
    · right
      have hs : rstep C i l R = (R.set l.a.toNat true).set l.b.toNat true := by
        unfold rstep
        rw [hc]
        have : (R.getD l.a.toNat false != R.getD l.b.toNat false) = true := by simpa using hab
        rw [this]; rfl
      have g2 : (R.set l.a.toNat true).getD l.b.toNat false = true ∨ (R.set l.a.toNat true).getD l.b.toNat false = R.getD l.b.toNat false := by
        simp only [List.getD_eq_getElem?_getD, List.getElem?_set]
        split
        · first | (left; rfl) | (split <;> first | (left; rfl) | omega)
        · right; rfl
      rw [hs, tru_set (by simpa using h2), tru_set h1]
      cases hx : R.getD l.a.toNat false with
      | false => simp; omega
      | true =>
        have hy : R.getD l.b.toNat false = false := by cases hy : R.getD l.b.toNat false <;> simp_all
        rcases g2 with h | h
        · exfalso
          have hne : l.a.toNat ≠ l.b.toNat := by intro e; rw [e, hy] at hx; cases hx
          simp only [List.getD_eq_getElem?_getD, List.getElem?_set, if_neg hne] at h hy
          rw [hy] at h; cases h
        · rw [h, hy]; simp
theorem rgo_tru {C : List Bool} : ∀ {L : List Lk} {i : Nat} {R : List Bool}, (∀ l ∈ L, Ends R.length l) → rgo C L i R = R ∧ ClosedL C i L (fun x => R.getD x false) ∨ tru R < tru (rgo C L i R)
  | [], i, R, _ => .inl ⟨rfl, fun j l h => by simp at h⟩
  | l :: r, i, R, he => by
    have ih := rgo_tru (C := C) (L := r) (i := i + 1) (R := rstep C i l R) (fun k hk => by rw [rstep_len]; exact he k (by simp [hk]))
    simp only [rgo]
    rcases rstep_tru (C := C) (i := i) (he l (by simp)) with ⟨h1, h2⟩ | h1
    · rw [h1] at ih ⊢
      rcases ih with ⟨h3, h4⟩ | h3
      · refine .inl ⟨h3, fun j k hk hc => ?_⟩
        cases j with
        | zero => simp at hk; subst hk; exact h2 hc
        | succ j => exact h4 j k (by simpa using hk) (by rwa [show i + 1 + j = i + (j + 1) by omega])
      · exact .inr h3
    · rcases ih with ⟨h3, _⟩ | h3
      · rw [h3]; exact .inr h1
      · exact .inr (by omega)
theorem rgo_id {C : List Bool} : ∀ {L : List Lk} {i : Nat} {R : List Bool}, ClosedL C i L (fun x => R.getD x false) → rgo C L i R = R
  | [], _, _, _ => rfl
  | l :: r, i, R, h => by
    simp only [rgo]
    rw [rstep_id (i := i) (h 0 l rfl)]
    exact rgo_id fun j k hk hc => h (j + 1) k (by simpa using hk) (by rwa [show i + (j + 1) = i + 1 + j by omega])
theorem rIter_id {C : List Bool} {L : List Lk} {R : List Bool} (h : ClosedL C 0 L (fun x => R.getD x false)) : ∀ n, rIter C L n R = R
  | 0 => rfl
  | n + 1 => by rw [rIter, rgo_id h, rIter_id h n]
theorem rIter_tru {C : List Bool} {L : List Lk} : ∀ {n : Nat} {R : List Bool}, (∀ l ∈ L, Ends R.length l) → ClosedL C 0 L (fun x => (rIter C L n R).getD x false) ∨ tru R + n ≤ tru (rIter C L n R)
  | 0, R, _ => .inr (Nat.le_refl _)
  | n + 1, R, he => by
    rcases rgo_tru (C := C) (L := L) (i := 0) (R := R) he with ⟨h1, h2⟩ | h1
    · left
      simp only [rIter]
      rw [h1, rIter_id h2]
      exact h2
    · rcases rIter_tru (C := C) (L := L) (n := n) (R := rgo C L 0 R) (fun l hl => by rw [rgo_len]; exact he l hl) with h2 | h2
      · exact .inl h2
      · right
        simp only [rIter]
        omega
/-- A closed set takes in what is reached. -/
theorem rgo_least {C : List Bool} {T : Nat → Bool} : ∀ {L : List Lk} {i : Nat} {R : List Bool}, ClosedL C i L T → (∀ x, R.getD x false = true → T x = true) → ∀ x, (rgo C L i R).getD x false = true → T x = true
  | [], _, _, _, h, x, hx => h x hx
  | l :: r, i, R, hT, h, x, hx => by
    simp only [rgo] at hx
    refine rgo_least (L := r) (i := i + 1) (R := rstep C i l R) (fun j k hk hc => hT (j + 1) k (by simpa using hk) (by rwa [show i + (j + 1) = i + 1 + j by omega])) (fun y hy => ?_) x hx
    unfold rstep at hy
    cases hc : C.getD i false with
    | true => rw [hc] at hy; exact h y hy
    | false =>
      have ht := hT 0 l rfl hc
      cases hb : (R.getD l.a.toNat false != R.getD l.b.toNat false) with
      | false => rw [hc, hb] at hy; exact h y hy
      | true =>
        rw [hc, hb] at hy
        have hab : T l.a.toNat = true ∧ T l.b.toNat = true := by
          cases h1 : R.getD l.a.toNat false with
          | true => have := h _ h1; exact ⟨this, by rw [← ht]; exact this⟩
          | false =>
            cases h2 : R.getD l.b.toNat false with
            | true => have := h _ h2; exact ⟨by rw [ht]; exact this, this⟩
            | false => rw [h1, h2] at hb; cases hb
        simp only [Bool.not_false, Bool.true_and, cond_true, List.getD_eq_getElem?_getD, List.getElem?_set, List.length_set] at hy
        by_cases h1 : l.b.toNat = y
        · rw [← h1]; exact hab.2
        · by_cases h2 : l.a.toNat = y
          · rw [← h2]; exact hab.1
          · rw [if_neg h1, if_neg h2] at hy
            exact h y (by rwa [List.getD_eq_getElem?_getD])
theorem rIter_least {C : List Bool} {L : List Lk} {T : Nat → Bool} (hT : ClosedL C 0 L T) : ∀ {n : Nat} {R : List Bool}, (∀ x, R.getD x false = true → T x = true) → ∀ x, (rIter C L n R).getD x false = true → T x = true
  | 0, _, h, x, hx => h x hx
  | n + 1, _, h, x, hx => rIter_least hT (n := n) (rgo_least hT h) x hx
section
variable {C : List Bool} {L : List Lk} {n : Nat} (he : ∀ l ∈ L, Ends n l)
theorem one_get {n a x : Nat} (ha : a < n) : ((List.replicate n false).set a true).getD x false = decide (a = x) := by
  simp only [List.getD_eq_getElem?_getD, List.getElem?_set, List.length_replicate, ha, if_true, List.getElem?_replicate]
  by_cases h : a = x
  · simp [h]
  · rw [if_neg h, decide_eq_false h]; split <;> rfl
theorem reach_len (C : List Bool) (L : List Lk) (n a : Nat) : (reachS C L n a).length = n := by unfold reachS; rw [rIter_len]; simp
theorem reach_self {a : Nat} (ha : a < n) : (reachS C L n a).getD a false = true := rIter_mono (by rw [one_get ha]; simp)
include he
theorem reach_closed {a : Nat} (ha : a < n) : ClosedL C 0 L (fun x => (reachS C L n a).getD x false) := by
  rcases rIter_tru (C := C) (L := L) (n := n) (R := (List.replicate n false).set a true) (by simpa using he) with h | h
  · exact h
  · exfalso
    have h1 := tru_le (rIter C L n ((List.replicate n false).set a true))
    rw [rIter_len] at h1
    simp at h1
    have h2 : 1 ≤ tru ((List.replicate n false).set a true) := by
      rw [tru_set (by simpa using ha)]
      have : (List.replicate n false).getD a false = false := by simp [List.getD_eq_getElem?_getD, List.getElem?_replicate]; split <;> rfl
      rw [this]; simp
    omega
omit he in
theorem reach_least {a : Nat} (ha : a < n) {T : Nat → Bool} (hT : ClosedL C 0 L T) (h : T a = true) : ∀ x, (reachS C L n a).getD x false = true → T x = true :=
  rIter_least hT fun x hx => by rw [one_get ha] at hx; simp at hx; subst hx; exact h
theorem reach_symm {a b : Nat} (ha : a < n) (hb : b < n) (h : (reachS C L n a).getD b false = true) : (reachS C L n b).getD a false = true := by
  cases hx : (reachS C L n b).getD a false with
  | true => rfl
  | false =>
    have hc := reach_closed (C := C) he hb
    have := reach_least (C := C) (L := L) ha (T := fun x => !(reachS C L n b).getD x false) (fun j l hl hj => by
      have := hc j l hl hj
      show (!(reachS C L n b).getD l.a.toNat false) = !(reachS C L n b).getD l.b.toNat false
      rw [show (reachS C L n b).getD l.a.toNat false = (reachS C L n b).getD l.b.toNat false from this]) (by show (!(reachS C L n b).getD a false) = true; rw [hx]; rfl) b h
    replace this : (!(reachS C L n b).getD b false) = true := this
    rw [reach_self hb] at this
    cases this
theorem reach_sub {a b : Nat} (ha : a < n) (hb : b < n) (h : (reachS C L n a).getD b false = true) : ∀ x, (reachS C L n b).getD x false = true → (reachS C L n a).getD x false = true :=
  reach_least hb (reach_closed he ha) h
theorem reach_same {a b : Nat} (ha : a < n) (hb : b < n) (h : (reachS C L n a).getD b false = true) : reachS C L n a = reachS C L n b := by
  have h2 := reach_symm he ha hb h
  have e : ∀ x, (reachS C L n a).getD x false = (reachS C L n b).getD x false := fun x => by
    cases hx : (reachS C L n a).getD x false with
    | true => exact (reach_sub he hb ha h2 x hx).symm
    | false =>
      cases hy : (reachS C L n b).getD x false with
      | false => rfl
      | true => rw [reach_sub he ha hb h x hy] at hx; cases hx
  refine List.ext_getElem (by rw [reach_len, reach_len]) fun i h1 h2 => ?_
  have := e i
  rw [List.getD_eq_getElem?_getD, List.getD_eq_getElem?_getD, List.getElem?_eq_getElem h1, List.getElem?_eq_getElem h2] at this
  simpa using this
theorem reach_symb {a b : Nat} (ha : a < n) (hb : b < n) : (reachS C L n a).getD b false = (reachS C L n b).getD a false := by
  cases h : (reachS C L n a).getD b false with
  | true => exact (reach_symm he ha hb h).symm
  | false =>
    cases h2 : (reachS C L n b).getD a false with
    | false => rfl
    | true => rw [reach_symm he hb ha h2] at h; cases h
/-- Where all is reached from one node, all is reached from every node. -/
theorem reach_all {a b : Nat} (ha : a < n) (hb : b < n) (h : ∀ x, x < n → (reachS C L n a).getD x false = true) : ∀ x, x < n → (reachS C L n b).getD x false = true := by
  rw [← reach_same he ha hb (h b hb)]; exact h
end
theorem findF_all : ∀ {R : List Bool} {i : Nat}, findF R i = none → ∀ x, x < R.length → R.getD x false = true
  | [], _, _, x, hx => by simp at hx
  | b :: r, i, h, x, hx => by
    cases b with
    | false => cases h
    | true =>
      cases x with
      | zero => rfl
      | succ x => exact findF_all (R := r) (i := i + 1) h x (by simpa using hx)
end Go.Proofs.Ytkngbmaomgfcjaa.topo
/- Contracts: slices.Contains of ints; Topo and Reach at a law's names; the topology of a draft. -/
namespace Go.Proofs.Ytkngbmaomgfcjaa.topo
open Go Go.En
set_option linter.unusedVariables false

/-! ### slices.Contains of ints -/
def T52 (n c : Nat) (x i : Int) : List Value := [.slice (some ⟨0, 0, none⟩) n c, .int .i64 x, J, J, J, J, J, .int .i64 n, .int .i64 i] ++ List.replicate 10 J
def TR52 (v : Int) : List Value := [J, J, J, J, .int .i64 v] ++ List.replicate 14 J
def TX52 (n c : Nat) (x : Int) : List Value := [.slice (some ⟨0, 0, none⟩) n c, .int .i64 x, J, J, J, J, J, .int .i64 n, J] ++ List.replicate 10 J
def H52 (K : List Int) : Hp := [(0, .cells (ic K) true)]
theorem H52_below (K : List Int) : hpBelow 2 (H52 K) = true := by
  have a4 : tidyB 2 (.cells (ic K) true) = true := small_avL (ic_av K)
  simp [H52, hpBelow, a4]
def Q52 (K : List Int) (c : Nat) (x i j : Int) : Bool → Res
  | false => ⟨.normal, T52 K.length c x j, [], H52 K, 2⟩
  | true => ⟨.ret, TR52 i, [], H52 K, 2⟩
theorem fi_go {K : List Int} {c i : Nat} {x : Int} (hi : i < K.length) {b : Bool} (hb : (x == K.getD i 0) = b) : CodeOk Try.prog none (lp Try.prog 52 2) (T52 K.length c x i) [] (H52 K) 2 (Q52 K c x i (IntKind.i64.wrap (i + 1)) b) := by
  have l0 := ld_i (b := 0) (ro := true) hi
  have hx : doIndexAddr Try.prog 28 (.slice (some ⟨0, 0, none⟩) K.length c) (.int .i64 i) = _ := ix_i hi
  generalize K.getD i 0 = y at l0 hb
  cases b <;>
    exact code_at (hs := [(9, .val (.bool (decide ((i : Int) < K.length))) (.bool true)), (14, .ix 28 (.slice (some ⟨0, 0, none⟩) K.length c) (.int .i64 i) _), (15, .ld 3 _ 0 (ic K) true _), (16, .val (.bool (x == y)) (.bool _))]) (ch := []) (evk 50) special ⟨congrArg Value.bool (decide_eq_true (by omega)), hx, ⟨l0, _, rfl⟩, congrArg Value.bool hb, trivial⟩ trivial (by kernel_rfl) (H52_below K) (H52_below K) (by kernel_rfl)
theorem fi_out (K : List Int) (c : Nat) (x : Int) : CodeOk Try.prog none (lp Try.prog 52 2) (T52 K.length c x K.length) [] (H52 K) 2 ⟨.exit 0, TX52 K.length c x, [], H52 K, 2⟩ :=
  code_at (hs := [(9, .val (.bool (decide ((K.length : Int) < K.length))) (.bool false))]) (ch := []) (evk 50) special ⟨congrArg Value.bool (decide_eq_false (by omega)), trivial⟩ trivial (by kernel_rfl) (H52_below K) (H52_below K) (by kernel_rfl)
def fndI (x : Int) : List Int → Nat → Option Nat
  | [], _ => none
  | y :: r, i => bif x == y then some i else fndI x r (i + 1)
def E52 (K : List Int) (c : Nat) (x : Int) : Option Nat → Res
  | some i => ⟨.ret, TR52 i, [], H52 K, 2⟩
  | none => ⟨.exit 0, TX52 K.length c x, [], H52 K, 2⟩
theorem fi_loop {K : List Int} {c : Nat} {x : Int} (hK : K.length ≤ 1000) : ∀ (k i : Nat), i + k = K.length → LoopOk Try.prog none (lp Try.prog 52 2) (T52 K.length c x i) [] (H52 K) 2 (E52 K c x (fndI x (K.drop i) i))
  | 0, i, h => by
    have : i = K.length := by omega
    subst this
    rw [List.drop_length]
    exact loopOk_out (fi_out K c x) (by show Exit.exit 0 ≠ Exit.normal; simp)
  | k + 1, i, h => by
    have hlt : i < K.length := by omega
    have hg : K.getD i 0 = K[i] := by simp [List.getD_eq_getElem?_getD, hlt]
    rw [List.drop_eq_getElem_cons hlt]
    simp only [fndI]
    cases hb : (x == K[i]) with
    | true =>
      have h1 := fi_go (c := c) hlt (x := x) (b := true) (by rw [hg]; exact hb)
      exact loopOk_out h1 (by show Exit.ret ≠ Exit.normal; simp)
    | false =>
      have h1 := fi_go (c := c) hlt (x := x) (b := false) (by rw [hg]; exact hb)
      rw [show (i : Int) + 1 = ((i + 1 : Nat) : Int) by push_cast; rfl, wrap_nat (by omega)] at h1
      exact loop_step h1 (fi_loop hK k (i + 1) (by omega))
termination_by k => k
theorem fndI_some (x : Int) : ∀ (K : List Int) (i : Nat), (fndI x K i).isSome = inS K x
  | [], _ => rfl
  | y :: r, i => by
    simp only [fndI]
    cases hb : (x == y) with
    | true =>
      have : y = x := by simpa using (beq_iff_eq.1 hb).symm
      subst this
      simp [inS]
    | false =>
      have h2 : (y == x) = false := by rw [beq_eq_false_iff_ne] at hb ⊢; exact fun e => hb e.symm
      have := fndI_some x r (i + 1)
      unfold inS at this ⊢
      simp only [cond_false, this, List.any_cons, h2, Bool.false_or]
theorem containsI_0 {K : List Int} {c : Nat} {x : Int} (hK : K.length ≤ 1000) {p : Bool} (hp : inS K x = p) : Memo.Ok Try.prog ⟨23, 1, [.slice (some ⟨0, 0, none⟩) K.length c, .int .i64 x], [(0, ic K)], .bool p, [], 1⟩ := by
  have m : Memo.Ok Try.prog ⟨52, 1, [.slice (some ⟨0, 0, none⟩) K.length c, .int .i64 x], [(0, ic K)], .int .i64 (optI (fndI x K 0)), [], 1⟩ := by
    have hlo := fi_loop (c := c) (x := x) hK K.length 0 (by omega)
    rw [List.drop_zero] at hlo
    generalize fndI x K 0 = g at hlo ⊢
    cases g <;>
      exact memo_pure (hs := []) (ch := [⟨2, none, .loop (lp Try.prog 52 2), T52 K.length c x 0, [], H52 K, 2, _, true⟩]) 2 (evk 50) special trivial ⟨codeOk_loop hlo, trivial⟩ (by kernel_rfl) (by simp [En.smallH, small_avL (ic_av K)]) (by kernel_rfl)
  rw [← fndI_some x K 0] at hp
  generalize fndI x K 0 = g at m hp
  cases g with
  | none =>
    simp at hp
    subst hp
    exact memo_pure (hs := [(7, .call _)]) (ch := []) 1 (evk 50) special ⟨m, trivial⟩ trivial (by kernel_rfl) (by simp [En.smallH, small_avL (ic_av K)]) (by kernel_rfl)
  | some i =>
    simp at hp
    subst hp
    exact memo_pure (hs := [(7, .call _), (8, .val (.bool (decide ((i : Int) ≥ 0))) (.bool true))]) (ch := []) 1 (evk 50) special ⟨m, congrArg Value.bool (decide_eq_true (by omega)), trivial⟩ trivial (by kernel_rfl) (by simp [En.smallH, small_avL (ic_av K)]) (by kernel_rfl)
theorem containsI_m {K : List Int} {c : Nat} {x : Int} (hK : K.length ≤ 1000) {p : Bool} (hp : inS K x = p) (b nx : Nat) : Memo.Ok Try.prog ⟨23, nx, [.slice (some ⟨b, 0, none⟩) K.length c, .int .i64 x], [(b, ic K)], .bool p, [], nx⟩ :=
  memo_blk (containsI_0 hK hp) (ic_av K) b nx (by kernel_rfl) rfl rfl
theorem containsN_m (x : Int) (nx : Nat) : Memo.Ok Try.prog ⟨23, nx, [.slice none 0 0, .int .i64 x], [], .bool false, [], nx⟩ := by
  have h : Memo.Ok Try.prog ⟨23, 0, [.slice none 0 0, .int .i64 x], [], .bool false, [], 0⟩ := memo_pure (hs := []) (ch := []) 1 (evk 50) special trivial trivial (by kernel_rfl) rfl (by kernel_rfl)
  exact memo_any h nx (by kernel_rfl) rfl rfl

/-! ### The topology of a draft -/
def XD (D : Dr) : Cx where
  N := nnS D
  sa := some ⟨0, 0, none⟩
  c := oc1
  sb := some ⟨1, 0, none⟩
  d := oc4
  st := bc (SS D)
  lk := lcs (L5 D)
  S := SS D
  ls := L5 D
  hst := fun i b h => bc_get h
  hlk := fun i l h => by
    rw [← lcs_cells]
    exact cellsOfL_get (f := Lk.cells) (s := 4) (fun _ => rfl) h
  hsa := .inr rfl
  hsb := .inr rfl
  avs := bc_av _
  avk := lcs_av _
  hS := by rw [SS_len]; have := bn_ok D; have := tn_ok D; unfold nnS; omega
  hL := by have := L5_len D; omega
theorem XD_check (D : Dr) : checkS (XD D) = true := check_draft rfl rfl rfl
theorem XD_d (D : Dr) : (XD D).ls.length ≤ (XD D).d := by
  have := L5_len D
  show (L5 D).length ≤ openCap + 4
  unfold openCap; omega
theorem XD_d2 (D : Dr) : capD (XD D).d := .inr rfl
theorem XD_ends (D : Dr) : ∀ l ∈ L5 D, Ends (nnS D : Int) l := fun l hl => by
  obtain ⟨j, hj, rfl⟩ := List.getElem_of_mem hl
  have := ((L5_inv D).good j _ (List.getElem?_eq_getElem hj)).1
  unfold linkS at this
  simp only [Bool.and_eq_true] at this
  exact ends_of this.1
/-- The value at the names s (stations) and l (links). -/
def tpc (N : Int) (n m s l : Nat) : List Value := [.int .i64 N, .slice (some ⟨s, 0, none⟩) n oc1, .slice (some ⟨l, 0, none⟩) m oc4]
def tpv (N : Int) (n m s l : Nat) : Value := .agg ⟨tpc N n m s l⟩
theorem topo_6 (D : Dr) (V : List (Nat × List Value)) (hV : ∀ b cs, (roHp D.V).get b = some (.cells cs true) → (roHp V).get b = some (.cells cs true)) :
    Memo.Ok Try.prog ⟨21, 6, [D.v], V, tpv (nnS D) (SS D).length (L5 D).length 9 43, [(43, lcs (L5 D)), (9, bc (SS D))], 52⟩ := by
  have h := topo_0 D
  have hs : small 50 5 (topoV D) = true := by
    unfold topoV tvT tcs slK
    cases L5 D <;> kernel_rfl
  have := memo_ren h (fun b => b) 6 V (by
    have hv : small 4 5 D.v = true := D.small (Nat.le_refl 4) 4
    have h1 : En.smallL (small 4 5) [D.v] = true := by simp only [En.smallL, hv, Bool.and_true]
    have h2 : below 4 D.V = true := by kernel_rfl
    have h3 : inNew 4 50 [(41, lcs (L5 D)), (7, bc (SS D))] = true := by kernel_rfl
    rw [h1, h2, hs, h3]; rfl) (by simp [En.smallH, Dr.V, small_avL (ucs_av _)]) (by simp [En.smallH, small_avL (lcs_av _), small_avL (bc_av _)]) (fun b cs hb => by
      have := hV b cs hb
      rw [this]
      have hav : avL cs = true := by
        by_cases h0 : 0 = b
        · subst h0; simp [Dr.V, roHp, Hp.get] at hb; subst hb; exact ucs_av _
        · by_cases h1 : 1 = b
          · subst h1; simp [Dr.V, roHp, Hp.get] at hb; subst hb; exact ucs_av _
          · by_cases h2 : 2 = b
            · subst h2; simp [Dr.V, roHp, Hp.get] at hb; subst hb; exact ucs_av _
            · by_cases h3 : 3 = b
              · subst h3; simp [Dr.V, roHp, Hp.get] at hb; subst hb; exact ucs_av _
              · simp [Dr.V, roHp, Hp.get, h0, h1, h2, h3] at hb
      rw [renV_avL hav])
  have e1 : renV (shift (fun b => b) 4 6) 5 (topoV D) = tpv (nnS D) (SS D).length (L5 D).length 9 43 := by
    have hn := L5_ne D
    unfold topoV tvT tcs slK
    cases hL : L5 D with
    | nil => exact absurd hL hn
    | cons x r => rfl
  have e2 : renH (shift (fun b => b) 4 6) [(41, lcs (L5 D)), (7, bc (SS D))] = [(43, lcs (L5 D)), (9, bc (SS D))] := by
    simp only [renH, renV_avL (lcs_av _), renV_avL (bc_av _)]; rfl
  have e3 : [D.v].map (renV (shift (fun b => b) 4 6) 5) = [D.v] := by
    have := D.renC (σ := shift (fun b => b) 4 6) rfl rfl rfl rfl 4
    show [Value.agg (D.cells.map (renV (shift (fun b => b) 4 6) 4)).toArray] = _
    rw [this]; rfl
  rw [e1, e2, e3] at this
  exact this
/-! ### Reach at other names -/
def ρ3 (s l c : Nat) : Nat → Nat
  | 0 => s
  | 1 => l
  | _ => c
theorem reachD_m (D : Dr) {K : List Int} (hK : K.length ≤ 1000) {e : Nat} {q : Int} (h : rErr (XD D) K q = none) {s l c nx : Nat} (hsl : s ≠ l ∧ s ≠ c ∧ l ≠ c) :
    Memo.Ok Try.prog ⟨18, nx, [tpv (nnS D) (SS D).length (L5 D).length s l, .int .i64 q, cutv c K.length e], [(s, bc (SS D)), (l, lcs (L5 D)), (c, ic K)], .tuple #[.slice (some ⟨nx + 5, 0, none⟩) (SS D).length (SS D).length, .int .i64 0], [(nx + 5, bc (reachS (cutC (XD D) K) (L5 D) (SS D).length q.toNat))], nx + 6⟩ := by
  have h0 := (reachY_0 (XD D) (XD_d D) (XD_d2 D) hK (e := e) h).2.2
  have := memo_ren h0 (ρ3 s l c) nx [(s, bc (SS D)), (l, lcs (L5 D)), (c, ic K)] (by
    show _ = true
    kernel_rfl) (V20_smallH (XD D) K 3) (by simp [En.smallH, small_avL (bc_av _)]) (fun b cs hb => by
    by_cases h0 : 0 = b
    · subst h0
      simp [V20, roHp, Hp.get, ρ3] at hb ⊢
      subst hb
      exact (renV_avL (bc_av _)).symm
    · by_cases h1 : 1 = b
      · subst h1
        simp [V20, roHp, Hp.get, ρ3, hsl.1] at hb ⊢
        subst hb
        exact (renV_avL (lcs_av _)).symm
      · by_cases h2 : 2 = b
        · subst h2
          simp [V20, roHp, Hp.get, ρ3, hsl.2.1, hsl.2.2] at hb ⊢
          subst hb
          exact (renV_avL (ic_av K)).symm
        · simp [V20, roHp, Hp.get, h0, h1, h2] at hb)
  rw [ren_bc] at this
  exact this
theorem reachN_0 (X : Cx) (hd : X.ls.length ≤ X.d) (hd2 : capD X.d) {p : Int} (h : rErr X [] p = none) :
    0 ≤ p ∧ p < X.S.length ∧ Memo.Ok Try.prog ⟨18, 2, [X.v, .int .i64 p, .slice none 0 0], X.V, .tuple #[.slice (some ⟨7, 0, none⟩) X.S.length X.S.length, .int .i64 0], [(7, bc (reachS cut0 X.ls X.S.length p.toNat))], 8⟩ := by
  unfold rErr at h
  cases hc : checkS X with
  | false => rw [hc] at h; cases h
  | true =>
    have mc := check_m X hd hd2 hc 3
    rw [hc] at h
    simp only [cond_true] at h
    cases hn : nodeBad X.N p with
    | true => rw [hn] at h; cases h
    | false =>
      have hn2 := hn
      simp only [nodeBad, Bool.or_eq_false_iff] at hn2
      obtain ⟨h1, h2⟩ := hn2
      have h1' := of_decide_eq_false h1
      have h2' := of_decide_eq_false h2
      have hc2 := hc
      unfold checkS lateS at hc2
      simp only [Bool.and_eq_true] at hc2
      obtain ⟨hN, hn2, hn12, h24⟩ := first_true hc2.1
      have he : ∀ l ∈ X.ls, Ends X.S.length l := fun l hl => hN ▸ ends_of (sndGo_mem hc2.2.1.1 l hl)
      refine ⟨by omega, by omega, ?_⟩
      obtain ⟨a, rfl⟩ : ∃ n : Nat, p = n := ⟨p.toNat, by omega⟩
      have mr := reach_m X (C := cut0) (a := a) hN (by simp [cut0]) h24 he (by omega) 5
      exact memo_new (hs := [(3, .frz), (13, .call _), (18, .val (.bool (decide ((a : Int) < 0))) (.bool _)), (23, .val (.bool (decide ((a : Int) ≥ X.N))) (.bool _)), (46, .call _)]) (ch := []) (evk 50) special ⟨trivial, mc, congrArg Value.bool h1, congrArg Value.bool h2, mr, trivial⟩ trivial (by kernel_rfl)
def ρ2n (s l : Nat) : Nat → Nat
  | 0 => s
  | _ => l
theorem reachDN_m (D : Dr) {q : Int} (h : rErr (XD D) [] q = none) {s l nx : Nat} (hsl : s ≠ l) :
    Memo.Ok Try.prog ⟨18, nx, [tpv (nnS D) (SS D).length (L5 D).length s l, .int .i64 q, .slice none 0 0], [(s, bc (SS D)), (l, lcs (L5 D))], .tuple #[.slice (some ⟨nx + 5, 0, none⟩) (SS D).length (SS D).length, .int .i64 0], [(nx + 5, bc (reachS cut0 (L5 D) (SS D).length q.toNat))], nx + 6⟩ := by
  have h0 := (reachN_0 (XD D) (XD_d D) (XD_d2 D) h).2.2
  have := memo_ren h0 (ρ2n s l) nx [(s, bc (SS D)), (l, lcs (L5 D))] (by
    show _ = true
    kernel_rfl) ((XD D).smallH 2) (by simp [En.smallH, small_avL (bc_av _)]) (fun b cs hb => by
    by_cases h0 : 0 = b
    · subst h0
      simp [Cx.V, roHp, Hp.get, ρ2n] at hb ⊢
      subst hb
      exact (renV_avL (bc_av _)).symm
    · by_cases h1 : 1 = b
      · subst h1
        simp [Cx.V, roHp, Hp.get, ρ2n, hsl] at hb ⊢
        subst hb
        exact (renV_avL (lcs_av _)).symm
      · simp [Cx.V, roHp, Hp.get, h0, h1] at hb)
  rw [ren_bc] at this
  exact this
end Go.Proofs.Ytkngbmaomgfcjaa.topo
/- TopoSpreads: its loops. -/
namespace Go.Proofs.Ytkngbmaomgfcjaa.topo
open Go Go.En
set_option linter.unusedVariables false

/-! ### The cut list -/
def TL5 (a b : Int) (cs : Value) (k : Nat) (q : Value) (j : Int) : List Value := mkT 159 0 [(2, .int .u8 a), (3, .int .u8 b), (9, pt 52), (10, q), (31, cs), (32, .int .i64 k), (33, .int .i64 j)]
def TX5 (a b : Int) (q : Value) : List Value := mkT 159 0 [(2, .int .u8 a), (3, .int .u8 b), (9, pt 52), (10, q)]
def HL5 (N : Int) (n m : Nat) (cu : List U8) (k : Nat) (K : List Int) : Hp := hpL k K [(52, .cells (tpc N n m 9 43) false), (4, .cells (ucs cu) true)]
section
variable {N a b : Int} {n m k c : Nat} {cu : List U8}
theorem sp_go {K : List Int} {j : Nat} {u : U8} (hm : 0 < m) (hK : K.length ≤ 900) (hj : j < k) (hk : k ≤ cu.length) (hu : cu[j]? = some u) :
    CodeOk Try.prog none (lp Try.prog 5 6) (TL5 a b (.slice (some ⟨4, 0, none⟩) k c) k (slL 56 K) j) [] (HL5 N n m cu 56 K) 57 ⟨.normal, TL5 a b (.slice (some ⟨4, 0, none⟩) k c) k (slL 59 (K ++ [Int.tmod u.x m])) (W (j + 1)), [], HL5 N n m cu 59 (K ++ [Int.tmod u.x m]), 60⟩ := by
  have hd : decide ((j : Int) < k) = true := decide_eq_true (by omega)
  have l1 : doLoad Try.prog [(4, .cells (ucs cu) true)] 5 (.pointer (some ⟨4, 0 + j * 1, none⟩)) = some (.int .u8 u.x) := ld1 z5 (cellsOfL_get (f := U8.cells) (s := 1) (fun _ => rfl) hu 0 _ rfl)
  have i1 : doIndexAddr Try.prog 44 (.slice (some ⟨4, 0, none⟩) k c) (.int .i64 j) = some (.pointer (some ⟨4, 0 + j * 1, none⟩)) := Sl.ix' (.inr rfl) u44 z5 hj
  have hx := u.h
  have w1 : W u.x = u.x := W_id (by omega)
  have rm := fun xo yo => rem_bin (P := Try.prog) (t := 3) (k := .i64) (a := u.x) (b := m) (by omega) xo yo
  have ap := app_io (a := 56) (b := 58) (L := K) (x := Int.tmod u.x m) hK
  generalize Int.tmod u.x m = z at rm ap ⊢
  generalize u.x = x at l1 w1 rm
  cases K with
  | nil => exact code_k [59, 52, 4] (hs := [(34, .val (.bool (decide ((j : Int) < k))) (.bool true)), (35, .ix 44 (.slice (some ⟨4, 0, none⟩) k c) (.int .i64 j) _), (36, .ld 5 _ 4 (ucs cu) true _), (39, .val (.int .i64 (W x)) (.int .i64 x)), (43, .bin .rem 3 _ _ _)]) (ch := []) (evk 50) special ⟨congrArg Value.bool hd, i1, ⟨l1, _, rfl⟩, congrArg (Value.int .i64) w1, rm, trivial⟩ trivial (by kernel_rfl)
  | cons y r => exact code_k [59, 52, 4] (hs := [(34, .val (.bool (decide ((j : Int) < k))) (.bool true)), (35, .ix 44 (.slice (some ⟨4, 0, none⟩) k c) (.int .i64 j) _), (36, .ld 5 _ 4 (ucs cu) true _), (39, .val (.int .i64 (W x)) (.int .i64 x)), (43, .bin .rem 3 _ _ _), (45, .app _ _ _ _ _ _ _ _)]) (ch := []) (evk 50) special ⟨congrArg Value.bool hd, i1, ⟨l1, _, rfl⟩, congrArg (Value.int .i64) w1, rm, ap, trivial⟩ trivial (by kernel_rfl)
theorem sp_out {cs : Value} {K : List Int} : CodeOk Try.prog none (lp Try.prog 5 6) (TL5 a b cs k (slL 56 K) k) [] (HL5 N n m cu 56 K) 57 ⟨.exit 0, TX5 a b (slL 56 K), [], HL5 N n m cu 56 K, 57⟩ := by
  have hd : decide ((k : Int) < k) = false := decide_eq_false (by omega)
  cases K with
  | nil => exact code_k [52, 4] (hs := [(34, .val (.bool (decide ((k : Int) < k))) (.bool false))]) (ch := []) (evk 50) special ⟨congrArg Value.bool hd, trivial⟩ trivial (by kernel_rfl)
  | cons y r => exact code_k [56, 52, 4] (hs := [(34, .val (.bool (decide ((k : Int) < k))) (.bool false))]) (ch := []) (evk 50) special ⟨congrArg Value.bool hd, trivial⟩ trivial (by kernel_rfl)
def σ5 : Nat → Nat := fun b => if b = 56 then 59 else b
theorem σ5_lt : ∀ b, b < 56 → σ5 b = b := fun b hb => by simp only [σ5]; rw [if_neg (by omega)]
theorem HL5_ren (K : List Int) : renHp σ5 (HL5 N n m cu 56 K) = HL5 N n m cu 59 K := by
  have e1 : (ucs cu).map (renV σ5 5) = ucs cu := renV_avL (ucs_av cu)
  have e2 : (tpc N n m 9 43).map (renV σ5 5) = tpc N n m 9 43 := rfl
  have s56 : σ5 56 = 59 := rfl
  cases K with
  | nil => simp only [HL5, hpL, renHp, renBlk, e1, e2, σ5_lt 52 (by omega), σ5_lt 4 (by omega)]
  | cons x r => simp only [HL5, hpL, renHp, renBlk, e1, e2, σ5_lt 52 (by omega), σ5_lt 4 (by omega), s56, ic_ren]
theorem TL5_ren (K : List Int) (j : Int) : (TL5 a b (.slice (some ⟨4, 0, none⟩) k c) k (slL 56 K) j).map (renV σ5 5) = TL5 a b (.slice (some ⟨4, 0, none⟩) k c) k (slL 59 K) j := by
  cases K <;> kernel_rfl
theorem HL5_below (K : List Int) : hpBelow 57 (HL5 N n m cu 56 K) = true := by
  have a1 : tidyB 57 (.cells (ucs cu) true) = true := small_avL (ucs_av cu)
  have a2 : tidyB 57 (.cells (tpc N n m 9 43) false) = true := rfl
  cases K with
  | nil => simp only [HL5, hpL, hpBelow, a1, a2]; rfl
  | cons x r =>
    have a3 : tidyB 57 (.cells (ic (x :: r)) false) = true := small_avL (ic_av _)
    simp only [HL5, hpL, hpBelow, a1, a2, a3]; rfl
theorem sp_loop (hm : 0 < m) (hk : k ≤ cu.length) (h30 : k ≤ 30) : ∀ (r j : Nat) (K : List Int), j + r = k → K.length = j →
    LoopL Try.prog 56 none (lp Try.prog 5 6) (TL5 a b (.slice (some ⟨4, 0, none⟩) k c) k (slL 56 K) j) [] (HL5 N n m cu 56 K) 57 ⟨.exit 0, TX5 a b (slL 56 (K ++ ((cu.take k).drop j).map fun u => Int.tmod u.x m)), [], HL5 N n m cu 56 (K ++ ((cu.take k).drop j).map fun u => Int.tmod u.x m), 60⟩
  | 0, j, K, h, hK => by
    have : j = k := by omega
    subst this
    rw [List.drop_eq_nil_of_le (by simp; omega)]
    simp only [List.map_nil, List.append_nil]
    exact loopL_out sp_out (by show Exit.exit 0 ≠ Exit.normal; simp) (by omega) (M := 60) (by show 57 ≤ 60; omega)
  | r + 1, j, K, h, hK => by
    have hj : j < (cu.take k).length := by simp; omega
    have hju : j < cu.length := by omega
    have hu : cu[j]? = some cu[j] := List.getElem?_eq_getElem hju
    have h1 := sp_go (N := N) (a := a) (b := b) (n := n) (c := c) (K := K) hm (by omega) (show j < k by omega) hk hu
    rw [show (j : Int) + 1 = ((j + 1 : Nat) : Int) by push_cast; rfl, wrapN (by omega)] at h1
    rw [List.drop_eq_getElem_cons hj]
    have hg : (cu.take k)[j] = cu[j] := by simp
    rw [hg]
    have ih := sp_loop hm hk h30 r (j + 1) (K ++ [Int.tmod cu[j].x m]) (by omega) (by simp; omega)
    rw [List.append_assoc] at ih
    have hne : ∃ y s, K ++ [Int.tmod cu[j].x m] = y :: s := by cases K <;> simp
    simp only [List.map_cons]
    refine loopL_step σ5 (n1 := 60) ?_ ih (by show 60 ≤ 60; omega) σ5_lt (by
      rw [HL5_ren]
      obtain ⟨y, s, hy⟩ := hne
      rw [hy]; kernel_rfl) (HL5_below _)
    rw [HL5_ren, TL5_ren]
    exact h1
termination_by r => r
/-- The loop where there is no cut. -/
theorem sp_none (cs : Value) : LoopOk Try.prog none (lp Try.prog 5 6) (TL5 a b cs 0 (slL 56 []) 0) [] (HL5 N n m cu 56 []) 56 ⟨.exit 0, TX5 a b (slL 56 []), [], HL5 N n m cu 56 [], 60⟩ :=
  loopOk_of_L (loopL_out (sp_out (k := 0)) (by show Exit.exit 0 ≠ Exit.normal; simp) (by omega) (M := 60) (by show 57 ≤ 60; omega))
end

/-! ### The links -/
def T9 (q : Value) (n m : Nat) (i : Int) : List Value := mkT 159 0 [(9, pt 52), (10, q), (15, .slice (some ⟨65, 0, none⟩) n n), (134, .slice (some ⟨43, 0, none⟩) m oc4), (135, .int .i64 m), (136, .int .i64 i)]
def TX9 (q : Value) (n m : Nat) : List Value := mkT 159 0 []
def H9 (R : List Bool) (L : List Lk) (K : List Int) : Hp := hpL 56 K [(65, .cells (bc R) false), (43, .cells (lcs L) false)]
theorem H9_below (R : List Bool) (L : List Lk) (K : List Int) {x : Nat} (hx : 66 ≤ x) : hpBelow x (H9 R L K) = true := by
  have a1 : tidyB x (.cells (bc R) false) = true := small_avL (bc_av R)
  have a2 : tidyB x (.cells (lcs L) false) = true := small_avL (lcs_av L)
  cases K with
  | nil => simp only [H9, hpL, hpBelow, a1, a2]; simp; omega
  | cons y r =>
    have a3 : tidyB x (.cells (ic (y :: r)) false) = true := small_avL (ic_av _)
    simp only [H9, hpL, hpBelow, a1, a2, a3]; simp; omega
theorem sq_go {R : List Bool} {L : List Lk} {K : List Int} (hK : K.length ≤ 1000) {i : Nat} {l : Lk} (hi : L[i]? = some l) (he : Ends R.length l) (hr : inS K i = false → R.getD l.a.toNat false = R.getD l.b.toNat false) :
    CodeOk Try.prog none (lp Try.prog 5 19) (T9 (slL 56 K) R.length L.length i) [] (H9 R L K) 81 ⟨.normal, T9 (slL 56 K) R.length L.length (W (i + 1)), [], H9 R L K, 81⟩ := by
  have hlt := lt_of hi
  have hd : decide ((i : Int) < L.length) = true := decide_eq_true (by omega)
  have ixl := ixK (b := 43) (c := oc4) hlt
  have ldl := lcs_at hi (b := 43) (ro := false)
  obtain ⟨e1, e2, e3, e4⟩ := he
  obtain ⟨x, y, p, q⟩ := l
  dsimp only at e1 e2 e3 e4 hr
  obtain ⟨x, rfl⟩ : ∃ n : Nat, x = n := ⟨x.toNat, by omega⟩
  obtain ⟨y, rfl⟩ : ∃ n : Nat, y = n := ⟨y.toNat, by omega⟩
  have x1 : x < R.length := by omega
  have y1 : y < R.length := by omega
  have ix1 := ix_b (b := 65) (c := R.length) x1
  have ix2 := ix_b (b := 65) (c := R.length) y1
  have ld1 := ld_b (b := 65) (ro := true) x1
  have ld2 := ld_b (b := 65) (ro := true) y1
  have hb1 := H9_below R L K (x := 81) (by omega)
  cases K with
  | nil =>
    have mc := containsN_m (i : Int) 82
    have hrr : R.getD x false = R.getD y false := by have := hr rfl; simpa using this
    rw [hrr] at ld1
    generalize R.getD y false = z at ld1 ld2
    cases z <;>
      exact code_at (hs := [(137, .val (.bool (decide ((i : Int) < L.length))) (.bool true)), (139, .ix 23 (.slice (some ⟨43, 0, none⟩) L.length oc4) (.int .i64 i) _), (140, .ld 50 _ 43 (lcs L) false _), (143, .call _), (149, .ix 22 (.slice (some ⟨65, 0, none⟩) R.length R.length) (.int .i64 x) _), (150, .ld 4 _ 65 (bc R) true _), (154, .ix 22 (.slice (some ⟨65, 0, none⟩) R.length R.length) (.int .i64 y) _), (155, .ld 4 _ 65 (bc R) true _)]) (ch := []) (evk 50) special
        ⟨congrArg Value.bool hd, ixl, ⟨ldl, _, rfl⟩, mc, ix1, ⟨ld1, _, rfl⟩, ix2, ⟨ld2, _, rfl⟩, trivial⟩ trivial (by kernel_rfl) hb1 hb1 (by kernel_rfl)
  | cons k0 kr =>
    cases hin : inS (k0 :: kr) i with
    | true =>
      have mc := containsI_m (c := oc1) hK hin 56 82
      exact code_at (hs := [(137, .val (.bool (decide ((i : Int) < L.length))) (.bool true)), (139, .ix 23 (.slice (some ⟨43, 0, none⟩) L.length oc4) (.int .i64 i) _), (140, .ld 50 _ 43 (lcs L) false _), (143, .call _)]) (ch := []) (evk 50) special
        ⟨congrArg Value.bool hd, ixl, ⟨ldl, _, rfl⟩, mc, trivial⟩ trivial (by kernel_rfl) hb1 hb1 (by kernel_rfl)
    | false =>
      have mc := containsI_m (c := oc1) hK hin 56 82
      have hrr : R.getD x false = R.getD y false := by have := hr hin; simpa using this
      rw [hrr] at ld1
      generalize R.getD y false = z at ld1 ld2
      cases z <;>
        exact code_at (hs := [(137, .val (.bool (decide ((i : Int) < L.length))) (.bool true)), (139, .ix 23 (.slice (some ⟨43, 0, none⟩) L.length oc4) (.int .i64 i) _), (140, .ld 50 _ 43 (lcs L) false _), (143, .call _), (149, .ix 22 (.slice (some ⟨65, 0, none⟩) R.length R.length) (.int .i64 x) _), (150, .ld 4 _ 65 (bc R) true _), (154, .ix 22 (.slice (some ⟨65, 0, none⟩) R.length R.length) (.int .i64 y) _), (155, .ld 4 _ 65 (bc R) true _)]) (ch := []) (evk 50) special
          ⟨congrArg Value.bool hd, ixl, ⟨ldl, _, rfl⟩, mc, ix1, ⟨ld1, _, rfl⟩, ix2, ⟨ld2, _, rfl⟩, trivial⟩ trivial (by kernel_rfl) hb1 hb1 (by kernel_rfl)
theorem sq_out {R : List Bool} {L : List Lk} {K : List Int} : CodeOk Try.prog none (lp Try.prog 5 19) (T9 (slL 56 K) R.length L.length L.length) [] (H9 R L K) 81 ⟨.exit 2, TX9 (slL 56 K) R.length L.length, [], H9 R L K, 81⟩ := by
  have hd : decide ((L.length : Int) < L.length) = false := decide_eq_false (by omega)
  have hb1 := H9_below R L K (x := 81) (by omega)
  cases K <;> exact code_at (hs := [(137, .val (.bool (decide ((L.length : Int) < L.length))) (.bool false))]) (ch := []) (evk 50) special ⟨congrArg Value.bool hd, trivial⟩ trivial (by kernel_rfl) hb1 hb1 (by kernel_rfl)
theorem sq_loop {R : List Bool} {L : List Lk} {K : List Int} (hK : K.length ≤ 1000) (hL : L.length ≤ 1000) (he : ∀ l ∈ L, Ends R.length l) (hr : ∀ (i : Nat) l, L[i]? = some l → inS K i = false → R.getD l.a.toNat false = R.getD l.b.toNat false) : ∀ (k i : Nat), i + k = L.length →
    LoopOk Try.prog none (lp Try.prog 5 19) (T9 (slL 56 K) R.length L.length i) [] (H9 R L K) 81 ⟨.exit 2, TX9 (slL 56 K) R.length L.length, [], H9 R L K, 81⟩
  | 0, i, h => by
    have : i = L.length := by omega
    subst this
    exact loopOk_out sq_out (by show Exit.exit 2 ≠ Exit.normal; simp)
  | k + 1, i, h => by
    have hlt : i < L.length := by omega
    have hi : L[i]? = some L[i] := List.getElem?_eq_getElem hlt
    have h1 := sq_go hK hi (he _ (List.getElem_mem hlt)) (hr i _ hi)
    rw [show (i : Int) + 1 = ((i + 1 : Nat) : Int) by push_cast; rfl, wrapN (by omega)] at h1
    exact loop_step h1 (sq_loop hK hL he hr k (i + 1) (by omega))
termination_by k => k
end Go.Proofs.Ytkngbmaomgfcjaa.topo
/- TopoSpreads: its call. -/
namespace Go.Proofs.Ytkngbmaomgfcjaa.topo
open Go Go.En
set_option linter.unusedVariables false

def V5 (D : Dr) (cu : List U8) : List (Nat × List Value) := [(4, ucs cu), (0, ucs D.ch), (1, ucs D.ho), (2, ucs D.pe), (3, ucs D.de)]
def VK (S : List Bool) (L : List Lk) : List Int → List (Nat × List Value)
  | [] => [(9, bc S), (43, lcs L)]
  | k0 :: kr => [(9, bc S), (43, lcs L), (56, ic (k0 :: kr))]
theorem V5_smallH (D : Dr) (cu : List U8) (k : Nat) : En.smallH k (V5 D cu) = true := by simp [En.smallH, V5, small_avL (ucs_av _)]
theorem V5_hV (D : Dr) (cu : List U8) {rest : List Value} {v : Value} (h : (En.smallL (En.small 5 5) rest && En.small 5 5 v) = true) : (nodupN (roHp (V5 D cu)) && below 5 (V5 D cu) && En.smallL (En.small 5 5) (D.v :: rest) && En.small 5 5 v) = true := by
  simp only [Bool.and_eq_true] at h
  have h1 : (nodupN (roHp (V5 D cu)) && below 5 (V5 D cu)) = true := by kernel_rfl
  have hv : En.small 5 5 D.v = true := D.small (by omega) 4
  simp only [h1, En.smallL, hv, h.1, h.2, Bool.and_self]
theorem sp_core {D : Dr} {cu : List U8} {s4 s5 : Option Addr} {n4 c4 c5 k n m : Nat} {a b : U8} {a' b' : Nat} {K : List Int} {S R1 R2 R3 : List Bool} {L : List Lk} {z : Bool}
    (hsm : En.small 5 5 (.slice s4 n4 c4) = true) (hmin : (if (30 : Int) < n4 then 30 else (n4 : Int)) = k)
    (hslc : doSlice Try.prog 44 (.slice s4 n4 c4) none (some (.int .i64 k)) none = some (.slice s5 k c5))
    (hlo : LoopOk Try.prog none (lp Try.prog 5 6) (TL5 a.x b.x (.slice s5 k c5) k (slL 56 []) 0) [] (HL5 n n m cu 56 []) 56 ⟨.exit 0, TX5 a.x b.x (slL 56 K), [], HL5 n n m cu 56 K, 60⟩)
    (ha : Int.tmod a.x n = a') (hb : Int.tmod b.x n = b') (hn : 0 < n)
    (mt : Memo.Ok Try.prog ⟨21, 6, [D.v], V5 D cu, tpv n n m 9 43, [(43, lcs L), (9, bc S)], 52⟩)
    (m1 : Memo.Ok Try.prog ⟨18, 60, [tpv n n m 9 43, .int .i64 a', slL 56 K], VK S L K, .tuple #[.slice (some ⟨65, 0, none⟩) n n, .int .i64 0], [(65, bc R1)], 66⟩)
    (m2 : Memo.Ok Try.prog ⟨18, 66, [tpv n n m 9 43, .int .i64 b', slL 56 K], VK S L K, .tuple #[.slice (some ⟨71, 0, none⟩) n n, .int .i64 0], [(71, bc R2)], 72⟩)
    (m3 : Memo.Ok Try.prog ⟨18, 72, [tpv n n m 9 43, .int .i64 a', .slice none 0 0], [(9, bc S), (43, lcs L)], .tuple #[.slice (some ⟨77, 0, none⟩) n n, .int .i64 0], [(77, bc R3)], 78⟩)
    (mc : Memo.Ok Try.prog ⟨22, 80, [.slice (some ⟨77, 0, none⟩) n n, .bool false], [(77, bc R3)], .bool false, [], 80⟩)
    (me : z = true → Memo.Ok Try.prog ⟨19, 80, [.slice (some ⟨65, 0, none⟩) n n, .slice (some ⟨71, 0, none⟩) n n], [(65, bc R1), (71, bc R2)], .bool true, [], 80⟩)
    (hR1 : R1.length = n) (hR2 : R2.length = n) (han : a' < n) (hbn : b' < n) (h1 : R1.getD a' false = true) (h2 : R1.getD b' false = z) (h3 : R2.getD a' false = z)
    (hq : LoopOk Try.prog none (lp Try.prog 5 19) (T9 (slL 56 K) n m 0) [] (H9 R1 L K) 81 ⟨.exit 2, TX9 (slL 56 K) n m, [], H9 R1 L K, 81⟩) :
    Memo.Ok Try.prog ⟨5, 5, [D.v, .slice s4 n4 c4, .int .u8 a.x, .int .u8 b.x], V5 D cu, .bool true, [], 5⟩ := by
  have hS := V5_smallH D cu 5
  have hV := V5_hV D cu (rest := [.slice s4 n4 c4, .int .u8 a.x, .int .u8 b.x]) (v := .bool true) (by simp only [En.smallL, hsm]; rfl)
  have hax := a.h
  have hbx := b.h
  have w1 : W a.x = a.x := W_id (by omega)
  have w2 : W b.x = b.x := W_id (by omega)
  have rm1 := fun xo yo => rem_bin (P := Try.prog) (t := 3) (k := .i64) (a := a.x) (b := n) (by omega) xo yo
  have rm2 := fun xo yo => rem_bin (P := Try.prog) (t := 3) (k := .i64) (a := b.x) (b := n) (by omega) xo yo
  rw [ha] at rm1
  rw [hb] at rm2
  have hne : ((n : Int) != (n : Int)) = false := by simp
  have ix1 := ix_b (b := 65) (c := n) han
  have ix2 := ix_b (b := 65) (c := n) hbn
  have ix3 := ix_b (b := 71) (c := n) han
  have l1 := ld_b (b := 65) (ro := true) (R := R1) (i := a') (by omega)
  have l2 := ld_b (b := 65) (ro := true) (R := R1) (i := b') (by omega)
  have l3 := ld_b (b := 71) (ro := true) (R := R2) (i := a') (by omega)
  rw [h1] at l1
  rw [h2] at l2
  rw [h3] at l3
  generalize a.x = ax at *
  generalize b.x = bx at *
  cases z with
  | false =>
    cases K with
    | nil => exact memo_pure (hs := [(4, .frz), (23, .call _), (26, .call _), (30, .val (.int .i64 (if (30 : Int) < n4 then 30 else (n4 : Int))) (.int .i64 k)), (31, .slc 44 (.slice s4 n4 c4) none (some (.int .i64 k)) none _), (48, .val (.int .i64 (W ax)) (.int .i64 ax)), (51, .bin .rem 3 _ _ _), (53, .val (.int .i64 (W bx)) (.int .i64 bx)), (56, .bin .rem 3 _ _ _), (61, .call _), (68, .call _), (74, .call _), (92, .val (.bool ((n : Int) != (n : Int))) (.bool false)), (99, .val (.bool ((n : Int) != (n : Int))) (.bool false)), (103, .call _), (107, .ix 22 (.slice (some ⟨65, 0, none⟩) n n) (.int .i64 a') _), (108, .ld 4 _ 65 (bc R1) true _), (113, .ix 22 (.slice (some ⟨65, 0, none⟩) n n) (.int .i64 b') _), (114, .ld 4 _ 65 (bc R1) true _), (117, .ix 22 (.slice (some ⟨71, 0, none⟩) n n) (.int .i64 a') _), (118, .ld 4 _ 71 (bc R2) true _), (124, .ix 22 (.slice (some ⟨65, 0, none⟩) n n) (.int .i64 b') _), (125, .ld 4 _ 65 (bc R1) true _)]) (ch := [⟨6, none, .loop (lp Try.prog 5 6), TL5 ax bx (.slice s5 k c5) k (slL 56 []) 0, [], HL5 n n m cu 56 [], 56, _, false⟩, ⟨19, none, .loop (lp Try.prog 5 19), T9 (slL 56 []) n m 0, [], H9 R1 L [], 81, _, false⟩]) 81 (evk 50) special ⟨trivial, wakes_m 6, mt, congrArg (Value.int .i64) hmin, hslc, congrArg (Value.int .i64) w1, rm1, congrArg (Value.int .i64) w2, rm2, m1, m2, m3, congrArg Value.bool hne, congrArg Value.bool hne, mc, ix1, ⟨l1, _, rfl⟩, ix2, ⟨l2, _, rfl⟩, ix3, ⟨l3, _, rfl⟩, ix2, ⟨l2, _, rfl⟩, trivial⟩ ⟨codeOk_loop hlo, codeOk_loop hq, trivial⟩ hV hS (by kernel_rfl)
    | cons k0 kr => exact memo_pure (hs := [(4, .frz), (23, .call _), (26, .call _), (30, .val (.int .i64 (if (30 : Int) < n4 then 30 else (n4 : Int))) (.int .i64 k)), (31, .slc 44 (.slice s4 n4 c4) none (some (.int .i64 k)) none _), (48, .val (.int .i64 (W ax)) (.int .i64 ax)), (51, .bin .rem 3 _ _ _), (53, .val (.int .i64 (W bx)) (.int .i64 bx)), (56, .bin .rem 3 _ _ _), (61, .call _), (68, .call _), (74, .call _), (92, .val (.bool ((n : Int) != (n : Int))) (.bool false)), (99, .val (.bool ((n : Int) != (n : Int))) (.bool false)), (103, .call _), (107, .ix 22 (.slice (some ⟨65, 0, none⟩) n n) (.int .i64 a') _), (108, .ld 4 _ 65 (bc R1) true _), (113, .ix 22 (.slice (some ⟨65, 0, none⟩) n n) (.int .i64 b') _), (114, .ld 4 _ 65 (bc R1) true _), (117, .ix 22 (.slice (some ⟨71, 0, none⟩) n n) (.int .i64 a') _), (118, .ld 4 _ 71 (bc R2) true _), (124, .ix 22 (.slice (some ⟨65, 0, none⟩) n n) (.int .i64 b') _), (125, .ld 4 _ 65 (bc R1) true _)]) (ch := [⟨6, none, .loop (lp Try.prog 5 6), TL5 ax bx (.slice s5 k c5) k (slL 56 []) 0, [], HL5 n n m cu 56 [], 56, _, false⟩, ⟨19, none, .loop (lp Try.prog 5 19), T9 (slL 56 (k0 :: kr)) n m 0, [], H9 R1 L (k0 :: kr), 81, _, false⟩]) 81 (evk 50) special ⟨trivial, wakes_m 6, mt, congrArg (Value.int .i64) hmin, hslc, congrArg (Value.int .i64) w1, rm1, congrArg (Value.int .i64) w2, rm2, m1, m2, m3, congrArg Value.bool hne, congrArg Value.bool hne, mc, ix1, ⟨l1, _, rfl⟩, ix2, ⟨l2, _, rfl⟩, ix3, ⟨l3, _, rfl⟩, ix2, ⟨l2, _, rfl⟩, trivial⟩ ⟨codeOk_loop hlo, codeOk_loop hq, trivial⟩ hV hS (by kernel_rfl)
  | true =>
    have me := me rfl
    cases K with
    | nil => exact memo_pure (hs := [(4, .frz), (23, .call _), (26, .call _), (30, .val (.int .i64 (if (30 : Int) < n4 then 30 else (n4 : Int))) (.int .i64 k)), (31, .slc 44 (.slice s4 n4 c4) none (some (.int .i64 k)) none _), (48, .val (.int .i64 (W ax)) (.int .i64 ax)), (51, .bin .rem 3 _ _ _), (53, .val (.int .i64 (W bx)) (.int .i64 bx)), (56, .bin .rem 3 _ _ _), (61, .call _), (68, .call _), (74, .call _), (92, .val (.bool ((n : Int) != (n : Int))) (.bool false)), (99, .val (.bool ((n : Int) != (n : Int))) (.bool false)), (103, .call _), (107, .ix 22 (.slice (some ⟨65, 0, none⟩) n n) (.int .i64 a') _), (108, .ld 4 _ 65 (bc R1) true _), (113, .ix 22 (.slice (some ⟨65, 0, none⟩) n n) (.int .i64 b') _), (114, .ld 4 _ 65 (bc R1) true _), (117, .ix 22 (.slice (some ⟨71, 0, none⟩) n n) (.int .i64 a') _), (118, .ld 4 _ 71 (bc R2) true _), (124, .ix 22 (.slice (some ⟨65, 0, none⟩) n n) (.int .i64 b') _), (125, .ld 4 _ 65 (bc R1) true _), (129, .call _)]) (ch := [⟨6, none, .loop (lp Try.prog 5 6), TL5 ax bx (.slice s5 k c5) k (slL 56 []) 0, [], HL5 n n m cu 56 [], 56, _, false⟩, ⟨19, none, .loop (lp Try.prog 5 19), T9 (slL 56 []) n m 0, [], H9 R1 L [], 81, _, false⟩]) 81 (evk 50) special ⟨trivial, wakes_m 6, mt, congrArg (Value.int .i64) hmin, hslc, congrArg (Value.int .i64) w1, rm1, congrArg (Value.int .i64) w2, rm2, m1, m2, m3, congrArg Value.bool hne, congrArg Value.bool hne, mc, ix1, ⟨l1, _, rfl⟩, ix2, ⟨l2, _, rfl⟩, ix3, ⟨l3, _, rfl⟩, ix2, ⟨l2, _, rfl⟩, me, trivial⟩ ⟨codeOk_loop hlo, codeOk_loop hq, trivial⟩ hV hS (by kernel_rfl)
    | cons k0 kr => exact memo_pure (hs := [(4, .frz), (23, .call _), (26, .call _), (30, .val (.int .i64 (if (30 : Int) < n4 then 30 else (n4 : Int))) (.int .i64 k)), (31, .slc 44 (.slice s4 n4 c4) none (some (.int .i64 k)) none _), (48, .val (.int .i64 (W ax)) (.int .i64 ax)), (51, .bin .rem 3 _ _ _), (53, .val (.int .i64 (W bx)) (.int .i64 bx)), (56, .bin .rem 3 _ _ _), (61, .call _), (68, .call _), (74, .call _), (92, .val (.bool ((n : Int) != (n : Int))) (.bool false)), (99, .val (.bool ((n : Int) != (n : Int))) (.bool false)), (103, .call _), (107, .ix 22 (.slice (some ⟨65, 0, none⟩) n n) (.int .i64 a') _), (108, .ld 4 _ 65 (bc R1) true _), (113, .ix 22 (.slice (some ⟨65, 0, none⟩) n n) (.int .i64 b') _), (114, .ld 4 _ 65 (bc R1) true _), (117, .ix 22 (.slice (some ⟨71, 0, none⟩) n n) (.int .i64 a') _), (118, .ld 4 _ 71 (bc R2) true _), (124, .ix 22 (.slice (some ⟨65, 0, none⟩) n n) (.int .i64 b') _), (125, .ld 4 _ 65 (bc R1) true _), (129, .call _)]) (ch := [⟨6, none, .loop (lp Try.prog 5 6), TL5 ax bx (.slice s5 k c5) k (slL 56 []) 0, [], HL5 n n m cu 56 [], 56, _, false⟩, ⟨19, none, .loop (lp Try.prog 5 19), T9 (slL 56 (k0 :: kr)) n m 0, [], H9 R1 L (k0 :: kr), 81, _, false⟩]) 81 (evk 50) special ⟨trivial, wakes_m 6, mt, congrArg (Value.int .i64) hmin, hslc, congrArg (Value.int .i64) w1, rm1, congrArg (Value.int .i64) w2, rm2, m1, m2, m3, congrArg Value.bool hne, congrArg Value.bool hne, mc, ix1, ⟨l1, _, rfl⟩, ix2, ⟨l2, _, rfl⟩, ix3, ⟨l3, _, rfl⟩, ix2, ⟨l2, _, rfl⟩, me, trivial⟩ ⟨codeOk_loop hlo, codeOk_loop hq, trivial⟩ hV hS (by kernel_rfl)
end Go.Proofs.Ytkngbmaomgfcjaa.topo
/- TopoSpreads: its call, for every draft; a row's draft, opened. -/
namespace Go.Proofs.Ytkngbmaomgfcjaa.topo
open Go Go.En Go.ChangeShapes Go.WideShapes Go.RowKit
set_option linter.unusedVariables false

theorem XD_parts (D : Dr) : (∀ l ∈ L5 D, Ends ((SS D).length : Int) l) ∧ (L5 D).length ≤ 24 ∧ 0 < (L5 D).length ∧ 2 ≤ (SS D).length ∧ (SS D).length ≤ 12 ∧ ∀ x, x < (SS D).length → (reachS cut0 (L5 D) (SS D).length 0).getD x false = true := by
  have hb := bn_ok D
  have ht := tn_ok D
  have hnn : nnS D = bnS D + tnS D := rfl
  refine ⟨fun l hl => by rw [SS_len]; exact XD_ends D l hl, L5_len D, List.length_pos_iff.2 (L5_ne D), by rw [SS_len]; omega, by rw [SS_len]; omega, ?_⟩
  have hc := XD_check D
  unfold checkS lateS at hc
  simp only [Bool.and_eq_true, Bool.not_eq_true', Option.isSome_eq_false_iff, Option.isNone_iff_eq_none] at hc
  have ha : allS (XD D) = none := hc.2.2
  intro x hx
  have := findF_all (R := reachS cut0 (L5 D) (SS D).length 0) (i := 0) ha x (by rw [reach_len]; exact hx)
  exact this
theorem rErr_ok (D : Dr) {K : List Int} (hK : ∀ x ∈ K, 0 ≤ x ∧ x < (L5 D).length) {p : Nat} (hp : p < (SS D).length) : rErr (XD D) K p = none ∧ (cutGo (L5 D).length K cut0).1 = true := by
  have h1 : (cutGo (L5 D).length K cut0).1 = true := by
    rw [cutGo_any, Bool.not_eq_true', List.any_eq_false]
    intro x hx
    have := hK x hx
    unfold badK
    simp only [Bool.or_eq_true, decide_eq_true_eq]
    omega
  refine ⟨?_, h1⟩
  unfold rErr
  have h2 : nodeBad (XD D).N (p : Int) = false := by
    unfold nodeBad
    have : (XD D).N = ((SS D).length : Int) := by rw [SS_len]; rfl
    rw [this]
    simp only [Bool.or_eq_false_iff, decide_eq_false_iff_not]
    omega
  have h3 : (cutGo (XD D).ls.length K cut0).1 = true := h1
  rw [XD_check, h2, h3]; rfl
theorem spreads_K (D : Dr) {cu : List U8} {s4 s5 : Option Addr} {n4 c4 c5 k : Nat} {a b : U8} (K : List Int) (hK : ∀ x ∈ K, 0 ≤ x ∧ x < (L5 D).length) (hKl : K.length ≤ 1000)
    (hsm : En.small 5 5 (.slice s4 n4 c4) = true) (hmin : (if (30 : Int) < n4 then 30 else (n4 : Int)) = k)
    (hslc : doSlice Try.prog 44 (.slice s4 n4 c4) none (some (.int .i64 k)) none = some (.slice s5 k c5))
    (hlo : ∀ n m : Nat, m = (L5 D).length → LoopOk Try.prog none (lp Try.prog 5 6) (TL5 a.x b.x (.slice s5 k c5) k (slL 56 []) 0) [] (HL5 n n m cu 56 []) 56 ⟨.exit 0, TX5 a.x b.x (slL 56 K), [], HL5 n n m cu 56 K, 60⟩) :
    Memo.Ok Try.prog ⟨5, 5, [D.v, .slice s4 n4 c4, .int .u8 a.x, .int .u8 b.x], V5 D cu, .bool true, [], 5⟩ := by
  obtain ⟨hE, h24, hm, hn2, hn12, hall⟩ := XD_parts D
  have hax := a.h
  have hbx := b.h
  obtain ⟨a', ha⟩ : ∃ a' : Nat, Int.tmod a.x (SS D).length = a' := ⟨(a.x % (SS D).length).toNat, by rw [tmod_nat hax.1 (by omega)]; have := Int.emod_nonneg a.x (show ((SS D).length : Int) ≠ 0 by omega); omega⟩
  obtain ⟨b', hb⟩ : ∃ b' : Nat, Int.tmod b.x (SS D).length = b' := ⟨(b.x % (SS D).length).toNat, by rw [tmod_nat hbx.1 (by omega)]; have := Int.emod_nonneg b.x (show ((SS D).length : Int) ≠ 0 by omega); omega⟩
  have han : a' < (SS D).length := by
    have := Int.emod_lt_of_pos a.x (show (0 : Int) < (SS D).length by omega)
    rw [tmod_nat hax.1 (by omega)] at ha; omega
  have hbn : b' < (SS D).length := by
    have := Int.emod_lt_of_pos b.x (show (0 : Int) < (SS D).length by omega)
    rw [tmod_nat hbx.1 (by omega)] at hb; omega
  have mt := topo_6 D (V5 D cu) (fun x cs hx => by
    by_cases h0 : 0 = x
    · subst h0; simpa [Dr.V, V5, roHp, Hp.get] using hx
    · by_cases h1 : 1 = x
      · subst h1; simpa [Dr.V, V5, roHp, Hp.get] using hx
      · by_cases h2 : 2 = x
        · subst h2; simpa [Dr.V, V5, roHp, Hp.get] using hx
        · by_cases h3 : 3 = x
          · subst h3; simpa [Dr.V, V5, roHp, Hp.get] using hx
          · simp [Dr.V, roHp, Hp.get, h0, h1, h2, h3] at hx)
  have hnn : nnS D = (SS D).length := (SS_len D).symm
  rw [hnn] at mt
  obtain ⟨r1, hcut⟩ := rErr_ok D hK han
  obtain ⟨r2, _⟩ := rErr_ok D hK hbn
  obtain ⟨r3, _⟩ := rErr_ok D (K := []) (by simp) han
  have hC : ∀ j : Nat, (cutC (XD D) K).getD j false = inS K j := fun j => by
    have := cutGo_get h24 (K := K) (C := cut0) (by simp [cut0]) hcut j
    rw [cut0_get, Bool.false_or] at this
    exact this
  have m1 : Memo.Ok Try.prog ⟨18, 60, [tpv (SS D).length (SS D).length (L5 D).length 9 43, .int .i64 a', slL 56 K], VK (SS D) (L5 D) K, .tuple #[.slice (some ⟨65, 0, none⟩) (SS D).length (SS D).length, .int .i64 0], [(65, bc (reachS (cutC (XD D) K) (L5 D) (SS D).length a'))], 66⟩ := by
    cases K with
    | nil => have := reachDN_m D r1 (s := 9) (l := 43) (nx := 60) (by omega); rw [hnn] at this; exact this
    | cons k0 kr => have := reachD_m D hKl (e := oc1) r1 (s := 9) (l := 43) (c := 56) (nx := 60) (by omega); rw [hnn] at this; exact this
  have m2 : Memo.Ok Try.prog ⟨18, 66, [tpv (SS D).length (SS D).length (L5 D).length 9 43, .int .i64 b', slL 56 K], VK (SS D) (L5 D) K, .tuple #[.slice (some ⟨71, 0, none⟩) (SS D).length (SS D).length, .int .i64 0], [(71, bc (reachS (cutC (XD D) K) (L5 D) (SS D).length b'))], 72⟩ := by
    cases K with
    | nil => have := reachDN_m D r2 (s := 9) (l := 43) (nx := 66) (by omega); rw [hnn] at this; exact this
    | cons k0 kr => have := reachD_m D hKl (e := oc1) r2 (s := 9) (l := 43) (c := 56) (nx := 66) (by omega); rw [hnn] at this; exact this
  have m3 : Memo.Ok Try.prog ⟨18, 72, [tpv (SS D).length (SS D).length (L5 D).length 9 43, .int .i64 a', .slice none 0 0], [(9, bc (SS D)), (43, lcs (L5 D))], .tuple #[.slice (some ⟨77, 0, none⟩) (SS D).length (SS D).length, .int .i64 0], [(77, bc (reachS cut0 (L5 D) (SS D).length a'))], 78⟩ := by
    have := reachDN_m D r3 (s := 9) (l := 43) (nx := 72) (by omega); rw [hnn] at this; exact this
  have hall' := reach_all hE (by omega) han hall
  have hlen3 := reach_len cut0 (L5 D) (SS D).length a'
  have hlen1 := reach_len (cutC (XD D) K) (L5 D) (SS D).length a'
  have hlen2 := reach_len (cutC (XD D) K) (L5 D) (SS D).length b'
  have mc := contains_m (R := reachS cut0 (L5 D) (SS D).length a') (c := (SS D).length) (by rw [hlen3]; omega) (p := false) (by rw [findF_none (fun x hx => hall' x (by rw [hlen3] at hx; exact hx))]; rfl) 77 80
  rw [hlen3] at mc
  have hq := sq_loop (R := reachS (cutC (XD D) K) (L5 D) (SS D).length a') (L := L5 D) (K := K) hKl (by omega) (by rw [hlen1]; exact hE) (fun i l hl hi => reach_closed hE han i l hl (by rw [Nat.zero_add, hC]; exact hi)) (L5 D).length 0 (by omega)
  rw [hlen1] at hq
  have hs := reach_symb (C := cutC (XD D) K) hE han hbn
  have h1 := reach_self (C := cutC (XD D) K) (L := L5 D) han
  have me : (reachS (cutC (XD D) K) (L5 D) (SS D).length a').getD b' false = true → Memo.Ok Try.prog ⟨19, 80, [.slice (some ⟨65, 0, none⟩) (SS D).length (SS D).length, .slice (some ⟨71, 0, none⟩) (SS D).length (SS D).length], [(65, bc (reachS (cutC (XD D) K) (L5 D) (SS D).length a')), (71, bc (reachS (cutC (XD D) K) (L5 D) (SS D).length b'))], .bool true, [], 80⟩ := fun hz => by
    have heq := reach_same (C := cutC (XD D) K) hE han hbn hz
    have := equal_m (p := true) (c := (SS D).length) (e := (SS D).length) (bc_av _) (bc_av _) (A := reachS (cutC (XD D) K) (L5 D) (SS D).length a') (B := reachS (cutC (XD D) K) (L5 D) (SS D).length b') (fun _ _ h => bc_get h) (fun _ _ h => bc_get h) (by rw [hlen1]; omega) (by rw [heq]; exact beq_self_eq_true _) 65 71 80 (by omega)
    rw [hlen1, hlen2] at this
    exact this
  exact sp_core hsm hmin hslc (hlo _ _ rfl) ha hb (by omega) mt m1 m2 m3 mc me hlen1 hlen2 han hbn h1 rfl hs.symm hq
theorem spreads_0 (D : Dr) {cu : List U8} {s4 : Option Addr} {c4 : Nat} (h4 : Sl 4 cu.length s4) (hnil : s4 = none → c4 = 0) (hle : cu.length ≤ c4) (hc4 : c4 < openCap) (a b : U8) :
    Memo.Ok Try.prog ⟨5, 5, [D.v, .slice s4 cu.length c4, .int .u8 a.x, .int .u8 b.x], V5 D cu, .bool true, [], 5⟩ := by
  obtain ⟨hE, h24, hm, hn2, hn12, hall⟩ := XD_parts D
  rcases h4 with ⟨rfl, h0⟩ | rfl
  · have hc := hnil rfl
    subst hc
    have : cu = [] := List.length_eq_zero_iff.1 h0
    subst this
    exact spreads_K D [] (by simp) (by simp) (s5 := none) (c5 := 0) (k := 0) (by kernel_rfl) rfl (by kernel_rfl) (fun n m hm => sp_none _)
  · have hmin : (if (30 : Int) < cu.length then 30 else (cu.length : Int)) = ((min cu.length 30 : Nat) : Int) := by split <;> omega
    have hsl := slc_hi (t := 44) (m := min cu.length 30) (n := cu.length) (b := 4) (sa := some ⟨4, 0, none⟩) (c := c4) u44 (by kernel_rfl) (.inr rfl) (by omega) hc4
    refine spreads_K D (((cu.take (min cu.length 30)).drop 0).map fun u => Int.tmod u.x (L5 D).length) (fun x hx => ?_) (by simp; omega) (s5 := some ⟨4, 0, none⟩) (c5 := c4) (k := min cu.length 30) (by kernel_rfl) hmin hsl (fun n m hm' => ?_)
    · obtain ⟨u, _, rfl⟩ := List.mem_map.1 hx
      have := u.h
      rw [tmod_nat this.1 (by omega)]
      have h1 := Int.emod_nonneg u.x (show ((L5 D).length : Int) ≠ 0 by omega)
      have h2 := Int.emod_lt_of_pos u.x (show (0 : Int) < (L5 D).length by omega)
      exact ⟨h1, h2⟩
    · subst hm'
      have := loopOk_of_L (sp_loop (N := n) (a := a.x) (b := b.x) (n := n) (c := c4) (cu := cu) (k := min cu.length 30) hm (by omega) (by omega) (min cu.length 30) 0 [] (by omega) rfl)
      simpa only [List.nil_append, Int.natCast_zero] using this

/-! ### A row's draft -/
theorem rowU {row : List Value} (h : LeafL [.i .u8] row) : ∃ a : U8, row = a.cells := by
  obtain ⟨a, r1, rfl, hw, h1⟩ := h.int
  have := h1.done
  subst this
  have : 0 ≤ a ∧ a < 256 := by
    simp only [Lit.wf, Bool.and_eq_true, decide_eq_true_eq] at hw
    have e1 : IntKind.u8.min = 0 := by decide
    have e2 : IntKind.u8.max = 255 := by decide
    omega
  exact ⟨⟨a, this⟩, rfl⟩
theorem u8_of {n : Int} (hw : (Lit.int .u8 n).wf = true) : ∃ a : U8, a.x = n := by
  have : 0 ≤ n ∧ n < 256 := by
    simp only [Lit.wf, Bool.and_eq_true, decide_eq_true_eq] at hw
    have e1 : IntKind.u8.min = 0 := by decide
    have e2 : IntKind.u8.max = 255 := by decide
    omega
  exact ⟨⟨n, this⟩, rfl⟩
section
variable {T : Type} {enc : TypeId × Value → T} {w : World} {base : Nat} {spare : Nat → Bool} {held : Bool} {r : Reach} {b0 : Nat}
set_option maxRecDepth 100000 in
theorem open_draft {v : Value} {d : DataW T} {ps : List MemPlace} (hv : Value.okWide Try.prog w r b0 46 v) (hd : DataW.Trod enc Try.prog w base spare held 46 v d ps) (h0 : CellsAt w 0) :
    ∃ (br st : U8) (ch ho pe de : List U8) (s0 s1 s2 s3 : Option Addr) (c0 c1 c2 c3 : Nat) (M0 M1 M2 M3 : En.Loc) (v0 v1 v2 v3 : Value), v = .agg #[.int .u8 br.x, .int .u8 st.x, v0, v1, v2, v3] ∧
      SlAt w 0 ch.length c0 s0 (ucs ch) v0 M0 ∧ SlAt w 1 ho.length c1 s1 (ucs ho) v1 M1 ∧ SlAt w 2 pe.length c2 s2 (ucs pe) v2 M2 ∧ SlAt w 3 de.length c3 s3 (ucs de) v3 M3 := by
  have q1 : fieldsOf Try.prog 46 = some [(5, 0), (5, 1), (44, 2), (44, 3), (44, 4), (44, 5)] := by kernel_rfl
  have q2 : Try.prog.cellTypes Try.prog.depth 46 = some [5, 5, 44, 44, 44, 44] := by kernel_rfl
  have q4 := open_agg (P := Try.prog) (w := w) (r := r) (b0 := b0) (t := 46) (v := v) (enc := enc) (base := base) (spare := spare) (held := held) (d := d) (ps := ps) q1 q2 hv hd
  obtain ⟨cs, rfl, hlen, hfl, hcell⟩ := q4
  have c46 : Try.prog.cellsOf 46 = 6 := by kernel_rfl
  have c5 : Try.prog.cellsOf 5 = 1 := by kernel_rfl
  have c44 : Try.prog.cellsOf 44 = 1 := by kernel_rfl
  rw [c46] at hlen
  obtain ⟨x, y, z0, z1, z2, z3, rfl⟩ : ∃ x y z0 z1 z2 z3, cs = [x, y, z0, z1, z2, z3] := by
    match cs, hlen with
    | [x, y, z0, z1, z2, z3], _ => exact ⟨x, y, z0, z1, z2, z3, rfl⟩
  obtain ⟨n0, y0, g0⟩ := hfl (5, 0) (by simp)
  obtain ⟨n1, y1, g1⟩ := hfl (5, 1) (by simp)
  obtain ⟨n2, y2, g2⟩ := hfl (44, 2) (by simp)
  obtain ⟨n3, y3, g3⟩ := hfl (44, 3) (by simp)
  obtain ⟨n4, y4, g4⟩ := hfl (44, 4) (by simp)
  obtain ⟨n5, y5, g5⟩ := hfl (44, 5) (by simp)
  simp only [c5, c44] at g0 g1 g2 g3 g4 g5
  have u5 : Try.prog.underlying 5 = some (.int .u8) := by kernel_rfl
  obtain ⟨N0, hN0, _, w0⟩ := DataW.trod_int u5 g0
  have hX0 : x = .int .u8 N0 := by simpa using hN0
  obtain ⟨N1, hN1, _, w1⟩ := DataW.trod_int u5 g1
  have hX1 : y = .int .u8 N1 := by simpa using hN1
  subst hX0
  subst hX1
  obtain ⟨br, rfl⟩ := u8_of w0
  obtain ⟨st, rfl⟩ := u8_of w1
  have g2 : DataW.trod enc Try.prog w base spare held n2 44 [z0] = some y2 := by simpa using g2
  have g3 : DataW.trod enc Try.prog w base spare held n3 44 [z1] = some y3 := by simpa using g3
  have g4 : DataW.trod enc Try.prog w base spare held n4 44 [z2] = some y4 := by simpa using g4
  have g5 : DataW.trod enc Try.prog w base spare held n5 44 [z3] = some y5 := by simpa using g5
  obtain ⟨t2, e2, k2⟩ := hcell 2 z0 rfl
  have e2 : t2 = 44 := by simpa using e2.symm
  subst e2
  obtain ⟨t3, e3, k3⟩ := hcell 3 z1 rfl
  have e3 : t3 = 44 := by simpa using e3.symm
  subst e3
  obtain ⟨t4, e4, k4⟩ := hcell 4 z2 rfl
  have e4 : t4 = 44 := by simpa using e4.symm
  subst e4
  obtain ⟨t5, e5, k5⟩ := hcell 5 z3 rfl
  have e5 : t5 = 44 := by simpa using e5.symm
  subst e5
  obtain ⟨ch, s0, c0, M0, h1⟩ := open_at (P := Try.prog) (f := U8.cells) (n := 5) u44 k2 g2 (ls := [.i .u8]) (by kernel_rfl) (s := 1) (by kernel_rfl) (fun _ => rfl) (fun _ => rowU) h0 0
  obtain ⟨ho, s1, c1, M1, h2⟩ := open_at (P := Try.prog) (f := U8.cells) (n := 5) u44 k3 g3 (ls := [.i .u8]) (by kernel_rfl) (s := 1) (by kernel_rfl) (fun _ => rfl) (fun _ => rowU) h0 1
  obtain ⟨pe, s2, c2, M2, h3⟩ := open_at (P := Try.prog) (f := U8.cells) (n := 5) u44 k4 g4 (ls := [.i .u8]) (by kernel_rfl) (s := 1) (by kernel_rfl) (fun _ => rfl) (fun _ => rowU) h0 2
  obtain ⟨de, s3, c3, M3, h4⟩ := open_at (P := Try.prog) (f := U8.cells) (n := 5) u44 k5 g5 (ls := [.i .u8]) (by kernel_rfl) (s := 1) (by kernel_rfl) (fun _ => rfl) (fun _ => rowU) h0 3
  exact ⟨br, st, ch, ho, pe, de, s0, s1, s2, s3, c0, c1, c2, c3, M0, M1, M2, M3, z0, z1, z2, z3, rfl, h1, h2, h3, h4⟩
set_option maxRecDepth 100000 in
/-- The law's function is called with a draft, octets, and other arguments without blocks. -/
theorem calls_ds {f : FuncId} {v v4 : Value} {rest : List Value} {d d4 : DataW T} {ps ps4 : List MemPlace} (h0 : CellsAt w 0) (hv : Value.okWide Try.prog w r b0 46 v) (hd : DataW.Trod enc Try.prog w base spare held 46 v d ps)
    (hv4 : Value.okWide Try.prog w r b0 44 v4) (hd4 : DataW.Trod enc Try.prog w base spare held 44 v4 d4 ps4) (hrest : ∀ φ : Ren, LRel φ rest rest)
    (h : ∀ (D : Dr) (cu : List U8) (s4 : Option Addr) (c4 : Nat), Sl 4 cu.length s4 → (s4 = none → c4 = 0) → cu.length ≤ c4 → c4 < openCap → Memo.Ok Try.prog ⟨f, 5, D.v :: .slice s4 cu.length c4 :: rest, V5 D cu, .bool true, [], 5⟩) :
    Calls Try.prog f (v :: v4 :: rest).toArray w fun e w' => e = .returned (.bool true) ∧ Below w.heap.size w w' := by
  obtain ⟨br, st, ch, ho, pe, de, s0, s1, s2, s3, c0, c1, c2, c3, M0, M1, M2, M3, z0, z1, z2, z3, rfl, h1, h2, h3, h4⟩ := open_draft (w := w) (r := r) (b0 := b0) (v := v) (enc := enc) (base := base) (spare := spare) (held := held) (d := d) (ps := ps) hv hd h0
  obtain ⟨fuel, hf4⟩ := hd4
  have k4 : Cell.okWide Try.prog w r b0 44 v4 := by simpa only [Value.okWide, u44] using hv4
  have hcl : v4.cells.toList = [v4] := by
    cases v4 <;> first | rfl | (simp only [Cell.okWide, u44, Cell.ok] at k4)
  have g4 : DataW.trod enc Try.prog w base spare held fuel 44 [v4] = some (d4, ps4) := by rw [hcl] at hf4; exact hf4
  obtain ⟨cu, s4, c4, M4, h5⟩ := open_at (P := Try.prog) (f := U8.cells) (n := 5) u44 k4 g4 (ls := [.i .u8]) (by kernel_rfl) (s := 1) (by kernel_rfl) (fun _ => rfl) (fun _ => rowU) h0 4
  let D : Dr := ⟨br, st, s0, s1, s2, s3, c0, c1, c2, c3, ch, ho, pe, de, h1.sl, h2.sl, h3.sl, h4.sl⟩
  have hnil : s4 = none → c4 = 0 := fun e => by
    rcases h5.val with ⟨_, _, _, h⟩ | ⟨h, _⟩
    · exact h
    · rw [e] at h; cases h
  refine calls_open (φ := renL [M0, M1, M2, M3, M4]) (h D cu s4 c4 h5.sl hnil h5.le h5.lt) (good_V fun b cs hb => ?_) ⟨?_, h5.rel rfl, hrest _⟩
  · by_cases h0 : 4 = b
    · subst h0; simp [V5, roHp, Hp.get] at hb; subst hb; exact ⟨M4, rfl, h5.brel (ucs_av _)⟩
    · by_cases e0 : 0 = b
      · subst e0; simp [V5, roHp, Hp.get] at hb; subst hb; exact ⟨M0, rfl, h1.brel (ucs_av _)⟩
      · by_cases e1 : 1 = b
        · subst e1; simp [V5, roHp, Hp.get] at hb; subst hb; exact ⟨M1, rfl, h2.brel (ucs_av _)⟩
        · by_cases e2 : 2 = b
          · subst e2; simp [V5, roHp, Hp.get] at hb; subst hb; exact ⟨M2, rfl, h3.brel (ucs_av _)⟩
          · by_cases e3 : 3 = b
            · subst e3; simp [V5, roHp, Hp.get] at hb; subst hb; exact ⟨M3, rfl, h4.brel (ucs_av _)⟩
            · simp [V5, roHp, Hp.get, h0, e0, e1, e2, e3] at hb
  · exact .agg' ⟨.int _ _, .int _ _, h1.rel rfl, h2.rel rfl, h3.rel rfl, h4.rel rfl, trivial⟩
end
end Go.Proofs.Ytkngbmaomgfcjaa.topo
/- slices.Sort of ints: the library's contract at this program (laid out by the kit's tool, in plain words), and in the engine's form. -/
namespace Go.Proofs.Ytkngbmaomgfcjaa.topo
open Go.Shelf
def lays189_ren : Go.Shelf.Ren := ⟨fun | 189 => 40 | 125 => 59 | 257 => 58 | 128 => 75 | 129 => 76 | 294 => 66 | 295 => 67 | 296 => 68 | 297 => 69 | 298 => 70 | 299 => 71 | 216 => 72 | 300 => 73 | 301 => 74 | 328 => 77 | 329 => 78 | 330 => 79 | 331 => 80 | 332 => 81 | 215 => 82 | 343 => 83 | n => n, fun | 28 => 28 | 3 => 3 | 46 => 81 | 0 => 0 | 51 => 95 | 53 => 97 | 4 => 4 | 183 => 87 | 182 => 86 | 131 => 92 | 5 => 5 | 9 => 9 | 218 => 98 | 222 => 102 | 228 => 104 | 229 => 105 | n => n, fun | n => n⟩
theorem lays189 : Go.Proofs.Lays.n189 Try.prog lays189_ren := {
  mixed := by kernel_rfl
  f125 := Try.func59.trans (congrArg some (by kernel_rfl))
  f128 := Try.func75.trans (congrArg some (by kernel_rfl))
  f129 := Try.func76.trans (congrArg some (by kernel_rfl))
  f189 := Try.func40.trans (congrArg some (by kernel_rfl))
  f215 := Try.func82.trans (congrArg some (by kernel_rfl))
  f216 := Try.func72.trans (congrArg some (by kernel_rfl))
  f257 := Try.func58.trans (congrArg some (by kernel_rfl))
  f294 := Try.func66.trans (congrArg some (by kernel_rfl))
  f295 := Try.func67.trans (congrArg some (by kernel_rfl))
  f296 := Try.func68.trans (congrArg some (by kernel_rfl))
  f297 := Try.func69.trans (congrArg some (by kernel_rfl))
  f298 := Try.func70.trans (congrArg some (by kernel_rfl))
  f299 := Try.func71.trans (congrArg some (by kernel_rfl))
  f300 := Try.func73.trans (congrArg some (by kernel_rfl))
  f301 := Try.func74.trans (congrArg some (by kernel_rfl))
  f328 := Try.func77.trans (congrArg some (by kernel_rfl))
  f329 := Try.func78.trans (congrArg some (by kernel_rfl))
  f330 := Try.func79.trans (congrArg some (by kernel_rfl))
  f331 := Try.func80.trans (congrArg some (by kernel_rfl))
  f332 := Try.func81.trans (congrArg some (by kernel_rfl))
  f343 := Try.func83.trans (congrArg some (by kernel_rfl))
  t0 := Try.underlying0
  a0 := Try.isAgg0
  z0 := Try.sizeOf0
  v0 := Try.zeroValue0
  t3 := Try.underlying3
  a3 := Try.isAgg3
  z3 := Try.sizeOf3
  v3 := Try.zeroValue3
  t4 := Try.underlying4
  a4 := Try.isAgg4
  z4 := Try.sizeOf4
  v4 := Try.zeroValue4
  t5 := Try.underlying5
  a5 := Try.isAgg5
  z5 := Try.sizeOf5
  v5 := Try.zeroValue5
  t9 := Try.underlying9
  a9 := Try.isAgg9
  z9 := Try.sizeOf9
  v9 := Try.zeroValue9
  t28 := Try.underlying28
  a28 := Try.isAgg28
  z28 := Try.sizeOf28
  v28 := Try.zeroValue28
  t46 := Try.underlying81
  a46 := Try.isAgg81
  z46 := Try.sizeOf81
  v46 := Try.zeroValue81
  t51 := Try.underlying95
  a51 := Try.isAgg95
  z51 := Try.sizeOf95
  v51 := Try.zeroValue95
  t53 := Try.underlying97
  a53 := Try.isAgg97
  z53 := Try.sizeOf97
  v53 := Try.zeroValue97
  t131 := Try.underlying92
  a131 := Try.isAgg92
  z131 := Try.sizeOf92
  v131 := Try.zeroValue92
  t182 := Try.underlying86
  a182 := Try.isAgg86
  z182 := Try.sizeOf86
  v182 := Try.zeroValue86
  t183 := Try.underlying87
  a183 := Try.isAgg87
  z183 := Try.sizeOf87
  v183 := Try.zeroValue87
  t218 := Try.underlying98
  a218 := Try.isAgg98
  z218 := Try.sizeOf98
  v218 := Try.zeroValue98
  t222 := Try.underlying102
  a222 := Try.isAgg102
  z222 := Try.sizeOf102
  v222 := Try.zeroValue102
  t228 := Try.underlying104
  a228 := Try.isAgg104
  z228 := Try.sizeOf104
  v228 := Try.zeroValue104
  t229 := Try.underlying105
  a229 := Try.isAgg105
  z229 := Try.sizeOf105
  v229 := Try.zeroValue105 }
end Go.Proofs.Ytkngbmaomgfcjaa.topo
namespace Go.Proofs.Ytkngbmaomgfcjaa.topo
open Go Go.En
set_option linter.unusedVariables false

theorem grow_heap (w : World) (os : Array Obj) {c : Nat} (h : c < w.heap.size) : (Go.Sort.grow w os).heap[c]? = w.heap[c]? := by
  show (w.heap ++ os)[c]? = _
  rw [Array.getElem?_append_left h]
theorem good_grow {φ : En.Ren} {H : Hp} {K : Nat → Prop} {w : World} (g : En.Good φ H K w) (os : Array Obj) : En.Good φ H K (Go.Sort.grow w os) := by
  refine ⟨fun b k hb => ?_, g.sep, g.prot, fun c hc => ?_⟩
  · obtain ⟨L, h1, h2⟩ := g.rel b k hb
    exact ⟨L, h1, h2.congr (grow_heap w os h2.lt)⟩
  · have := g.kin c hc
    show c < (w.heap ++ os).size
    simp; omega
theorem good_ahead {φ : En.Ren} {H : Hp} {K : Nat → Prop} {w : World} (g : En.Good φ H K w) (n : Nat) : En.Good φ H K (Go.Sort.ahead w n) :=
  ⟨fun b k h => let ⟨L, h1, h2⟩ := g.rel b k h; ⟨L, h1, h2.congr rfl⟩, g.sep, g.prot, g.kin⟩
def srt (L : List Int) : List Int := L.mergeSort fun x y => decide (x ≤ y)
theorem srt_len (L : List Int) : (srt L).length = L.length := List.length_mergeSort L
theorem putRow_heap (w : World) (blk off : Nat) (d : Array Int) (c : Nat) (h : c ≠ blk) : (Go.Sort.putRow (Value.int .i64) w blk off d).heap[c]? = w.heap[c]? := by
  show (w.heap.modify blk _)[c]? = _
  rw [Array.getElem?_modify]
  rw [if_neg (fun e => h e.symm)]
theorem putRow_size (w : World) (blk off : Nat) (d : Array Int) : (Go.Sort.putRow (Value.int .i64) w blk off d).heap.size = w.heap.size := by
  show (w.heap.modify blk _).size = _
  simp
theorem ic_at {L : List Int} {j : Nat} {v : Value} (h : (ic L)[j]? = some v) : ∃ x, L[j]? = some x ∧ v = .int .i64 x := by
  unfold ic at h
  rw [List.getElem?_map] at h
  cases hx : L[j]? with
  | none => rw [hx] at h; cases h
  | some x => rw [hx] at h; simp at h; exact ⟨x, rfl, h.symm⟩
/-- slices.Sort, on a block of ints that is ours to turn. -/
theorem sort_ok {L : List Int} (h0 : 0 < L.length) (hlen : L.length ≤ 1000) {b nx : Nat} {H : Hp} (hb : H.get b = some (.cells (ic L) false)) :
    (∃ fn, Try.prog.funcs[40]? = some fn ∧ fn.body.isSome = true) ∧ CallOk Try.prog 40 [.slice (some ⟨b, 0, none⟩) L.length oc1] H nx (.tuple #[]) (H.set b (.cells (ic (srt L)) false)) nx := by
  refine ⟨⟨Try.f40, Try.func40, by kernel_rfl⟩, Nat.le_refl _, fun φ w K us g hf hl => ?_⟩
  match us, hl with
  | [u], hl =>
    obtain ⟨hu, _⟩ := hl
    have key : ∃ M c', φ b = some M ∧ u = .slice (some ⟨M.blk, M.off, none⟩) L.length c' := by
      generalize hnL : L.length = nL at hu h0
      cases hu with
      | sl _ _ _ _ M h hc => exact absurd hc (by unfold oc1; omega)
      | slO _ _ _ _ c' M h hc hn hl => exact ⟨M, c', h, by simp⟩
      | slE => omega
    obtain ⟨M, c', hM, rfl⟩ := key
    obtain ⟨arr, el, fr, e1, e2, e3⟩ := g.at hb hM
    obtain ⟨rfl, e4⟩ := e3 rfl
    have hcell : ∀ j (hj : j < L.length), arr[M.off + j]? = some (.int .i64 L[j]) := fun j hj => by
      have hv : (ic L)[j]? = some (.int .i64 L[j]) := by unfold ic; simp [hj]
      obtain ⟨v', q1, q2⟩ := e2 j _ hv
      cases q2
      exact q1
    have hH : Go.Sort.Holds (Value.int .i64) w M.blk M.off L.toArray := fun j hj => by
      have hj : j < L.length := by simpa using hj
      refine ⟨?_, ?_⟩
      · show (match w.heap[M.blk]? with | some (.cells c _ _) => if (none : Option Nat).isSome then none else c[M.off + j]? | _ => none) = _
        rw [e1]
        have := hcell j hj
        simp [this, hj]
      · show (match w.heap[M.blk]? with | some (.cells _ _ (lo, hi)) => decide (lo ≤ M.off + j) && decide (M.off + j < hi) | _ => false) = _
        rw [e1]
        simp
    have hlt : M.blk < w.heap.size := (Array.getElem?_eq_some_iff.1 e1).1
    refine Calls.mono (Any.slices_Sort_int lays189 M.blk M.off c' L w hH hlt (by omega)) ?_
    rintro e w' ⟨rfl, n, os, rfl⟩
    have hsl : (srt L).length = L.length := srt_len L
    have hM2 : ¬ K M.blk := g.prot b _ M hb rfl hM
    have hbr : BRel φ (Go.Sort.putRow (Value.int .i64) (Go.Sort.ahead w n) M.blk M.off (srt L).toArray) M (.cells (ic (srt L)) false) := by
      refine ⟨Go.Sort.putCells (Value.int .i64) M.off (srt L).toArray arr, el, (0, 0), ?_, fun j v hv => ?_, fun _ => ⟨rfl, ?_⟩⟩
      · show ((Go.Sort.ahead w n).heap.modify M.blk _)[M.blk]? = _
        rw [Array.getElem?_modify, if_pos rfl]
        show Option.map _ w.heap[M.blk]? = _
        rw [e1]; rfl
      · obtain ⟨x, hx, rfl⟩ := ic_at hv
        have hj := (List.getElem?_eq_some_iff.1 hx).1
        refine ⟨.int .i64 x, ?_, .int _ _⟩
        have hjL : j < L.length := by omega
        have hin : M.off + j < arr.size := (Array.getElem?_eq_some_iff.1 (hcell j hjL)).1
        unfold Go.Sort.putCells
        rw [Array.getElem?_mapIdx, Array.getElem?_eq_getElem hin]
        have hc : M.off ≤ M.off + j ∧ M.off + j < M.off + (srt L).toArray.size := by simp; omega
        simp only [Option.map_some, if_pos hc, Nat.add_sub_cancel_left]
        have : (srt L).toArray[j]! = x := by
          rw [getElem!_pos (srt L).toArray j (by simpa using hj)]
          have := (List.getElem?_eq_some_iff.1 hx).2
          simpa using this
        rw [this]
      · unfold Go.Sort.putCells
        simpa using e4
    refine ⟨.tuple #[], φ, rfl, .tuple' trivial, Ext.refl _ _ _, good_grow (En.Good.upd (good_ahead g n) hb rfl hM (fun c hc => putRow_heap _ _ _ _ c hc) (putRow_size _ _ _ _) hbr) os, ?_⟩
    refine ⟨rfl, rfl, rfl, ?_, fun c hc => ?_⟩
    · show w.heap.size ≤ ((w.heap.modify M.blk _) ++ os).size
      simp
    · have hne : c ≠ M.blk := fun e => hM2 (e ▸ hc)
      have hcs := g.kin c hc
      rw [grow_heap _ _ (by rw [putRow_size]; exact hcs), putRow_heap _ _ _ _ c hne]
      rfl
end Go.Proofs.Ytkngbmaomgfcjaa.topo
/- Plain: the ports of a valid topology: the reverse of a port; every port sends from one node. -/
namespace Go.Proofs.Ytkngbmaomgfcjaa.topo
open Go Go.En
set_option linter.unusedVariables false

def d0 : Lk := ⟨0, 0, 0, 0⟩
theorem tm_even (i : Nat) : ((((2 * i : Nat) : Int)).tmod 2 == 0) = true := by
  rw [tmod_nat (by omega) (by omega)]
  simp
theorem tm_odd (i : Nat) : ((((2 * i + 1 : Nat) : Int)).tmod 2 == 0) = false := by
  rw [tmod_nat (by omega) (by omega)]
  simp
section
variable {X : Cx}
theorem fr_even (X : Cx) (i : Nat) : ansAt X 42 (2 * i : Nat) = (X.ls.getD i d0).a := by
  unfold ansAt ansS fromS
  rw [tm_even, Int.toNat_natCast, show 2 * i / 2 = i by omega]; rfl
theorem fr_odd (X : Cx) (i : Nat) : ansAt X 42 (2 * i + 1 : Nat) = (X.ls.getD i d0).b := by
  unfold ansAt ansS fromS
  rw [tm_odd, Int.toNat_natCast, show (2 * i + 1) / 2 = i by omega]; rfl
theorem to_even (X : Cx) (i : Nat) : ansAt X 44 (2 * i : Nat) = (X.ls.getD i d0).b := by
  unfold ansAt ansS toS
  rw [tm_even, Int.toNat_natCast, show 2 * i / 2 = i by omega]; rfl
theorem to_odd (X : Cx) (i : Nat) : ansAt X 44 (2 * i + 1 : Nat) = (X.ls.getD i d0).a := by
  unfold ansAt ansS toS
  rw [tm_odd, Int.toNat_natCast, show (2 * i + 1) / 2 = i by omega]; rfl
theorem back_even (X : Cx) {i : Nat} (h : i < 900) : ansAt X 56 (2 * i : Nat) = (2 * i + 1 : Nat) := by
  show backX (2 * i : Nat) = _
  have := back_dec ⟨2 * i, by omega⟩
  dsimp only at this
  rw [this]
  have e : (((2 * i : Nat) : Int).tmod 2 == 1) = false := by rw [tmod_nat (by omega) (by omega)]; simp
  rw [e]
  exact W_id (a := ((2 * i : Nat) : Int) + 1) (by omega)
theorem back_odd (X : Cx) {i : Nat} (h : i < 900) : ansAt X 56 (2 * i + 1 : Nat) = (2 * i : Nat) := by
  show backX (2 * i + 1 : Nat) = _
  have := back_dec ⟨2 * i + 1, by omega⟩
  dsimp only at this
  rw [this]
  have e : (((2 * i + 1 : Nat) : Int).tmod 2 == 1) = true := by rw [tmod_nat (by omega) (by omega)]; simp
  rw [e]
  have := W_id (a := ((2 * i + 1 : Nat) : Int) - 1) (by omega)
  show W (((2 * i + 1 : Nat) : Int) - 1) = _
  rw [this]; omega
theorem colS_eq (X : Cx) (a : Int) : ∀ (k p : Nat) (L : List Int), colS X a k p L = L ++ ((List.range' p k).filter fun q => ansAt X 42 (q : Nat) == a).map fun q : Nat => (q : Int)
  | 0, p, L => by simp [colS]
  | k + 1, p, L => by
    rw [colS, colS_eq X a k, List.range'_succ]
    cases h : (ansAt X 42 p == a) with
    | true => rw [List.filter_cons_of_pos (by simpa using h)]; simp
    | false => rw [List.filter_cons_of_neg (by simpa using h)]; simp
theorem portsS_eq (X : Cx) (a : Int) : portsS X a = ((List.range (2 * X.ls.length)).filter fun q => ansAt X 42 (q : Nat) == a).map fun q : Nat => (q : Int) := by
  unfold portsS
  rw [colS_eq, List.nil_append, List.range_eq_range']
def flatP (X : Cx) : Nat → Nat → List Int
  | 0, _ => []
  | k + 1, i => portsS X i ++ flatP X k (i + 1)
theorem filter_two {α : Type} {p q r : α → Bool} (hr : ∀ a, r a = (p a || q a)) (hd : ∀ a, p a = true → q a = false) : ∀ l : List α, (l.filter p ++ l.filter q).Perm (l.filter r)
  | [] => .refl _
  | a :: l => by
    have ih := filter_two hr hd l
    cases hp : p a with
    | true =>
      rw [List.filter_cons_of_pos hp, List.filter_cons_of_neg (by rw [hd a hp]; simp), List.filter_cons_of_pos (by rw [hr, hp]; rfl)]
      exact List.Perm.cons a ih
    | false =>
      rw [List.filter_cons_of_neg (by rw [hp]; simp)]
      cases hq : q a with
      | true =>
        rw [List.filter_cons_of_pos hq, List.filter_cons_of_pos (by rw [hr, hp, hq]; rfl)]
        exact List.perm_middle.trans (List.Perm.cons a ih)
      | false =>
        rw [List.filter_cons_of_neg (by rw [hq]; simp), List.filter_cons_of_neg (by rw [hr, hp, hq]; simp)]
        exact ih
theorem flatP_perm (X : Cx) : ∀ (k i : Nat), (flatP X k i).Perm (((List.range (2 * X.ls.length)).filter fun q => decide ((i : Int) ≤ ansAt X 42 (q : Nat)) && decide (ansAt X 42 (q : Nat) < (i + k : Nat))).map fun q : Nat => (q : Int))
  | 0, i => by
    have : ((List.range (2 * X.ls.length)).filter fun q => decide ((i : Int) ≤ ansAt X 42 (q : Nat)) && decide (ansAt X 42 (q : Nat) < (i + 0 : Nat))) = [] := by
      rw [List.filter_eq_nil_iff]
      intro q _ h
      simp only [Bool.and_eq_true, decide_eq_true_eq] at h
      omega
    rw [this]; exact .refl _
  | k + 1, i => by
    have ih := flatP_perm X k (i + 1)
    simp only [flatP]
    rw [portsS_eq]
    refine (List.Perm.append_left _ ih).trans ?_
    rw [← List.map_append]
    refine List.Perm.map _ (filter_two (fun q => ?_) (fun q h => ?_) _)
    · rw [Bool.eq_iff_iff]
      simp only [Bool.or_eq_true, Bool.and_eq_true, decide_eq_true_eq, beq_iff_eq]
      push_cast
      omega
    · rw [Bool.eq_false_iff]
      intro h2
      simp only [Bool.and_eq_true, decide_eq_true_eq, beq_iff_eq] at h h2
      push_cast at h2
      omega
variable (hE : ∀ l ∈ X.ls, Ends X.N l)
theorem getD_mem {ls : List Lk} {i : Nat} (h : i < ls.length) : ls.getD i d0 ∈ ls := by
  rw [List.getD_eq_getElem?_getD, List.getElem?_eq_getElem h]
  exact List.getElem_mem h
include hE
theorem fr_in {q : Nat} (hq : q < 2 * X.ls.length) : 0 ≤ ansAt X 42 q ∧ ansAt X 42 q < X.N := by
  have h := hE _ (getD_mem (show q / 2 < X.ls.length by omega))
  obtain ⟨e1, e2, e3, e4⟩ := h
  rcases (show q = 2 * (q / 2) ∨ q = 2 * (q / 2) + 1 by omega) with e | e
  · rw [e, fr_even]; exact ⟨e1, e2⟩
  · rw [e, fr_odd]; exact ⟨e3, e4⟩
theorem srt_flat {N : Nat} (hN : X.N = N) : srt (flatP X N 0) = (List.range (2 * X.ls.length)).map fun q : Nat => (q : Int) := by
  have h := flatP_perm X N 0
  have hall : ((List.range (2 * X.ls.length)).filter fun q => decide (((0 : Nat) : Int) ≤ ansAt X 42 (q : Nat)) && decide (ansAt X 42 (q : Nat) < (0 + N : Nat))) = List.range (2 * X.ls.length) := by
    rw [List.filter_eq_self]
    intro q hq
    have := fr_in hE (List.mem_range.1 hq)
    simp only [Bool.and_eq_true, decide_eq_true_eq]
    omega
  rw [hall] at h
  refine List.Perm.eq_of_pairwise (le := fun x y => decide (x ≤ y) = true) ?_ ?_ ?_ ((List.mergeSort_perm _ _).trans h)
  · intro a b _ _ h1 h2
    simp only [decide_eq_true_eq] at h1 h2
    omega
  · exact List.pairwise_mergeSort (fun a b c h1 h2 => by simp only [decide_eq_true_eq] at h1 h2 ⊢; omega) (fun a b => by simp only [Bool.or_eq_true, decide_eq_true_eq]; omega) _
  · rw [List.pairwise_map]
    exact (List.pairwise_lt_range (n := 2 * X.ls.length)).imp fun h => by simp only [decide_eq_true_eq]; omega
theorem flat_len {N : Nat} (hN : X.N = N) : (flatP X N 0).length = 2 * X.ls.length := by
  have := srt_flat hE hN
  have h2 := congrArg List.length this
  rw [srt_len] at h2
  simpa using h2
end
/-! ### One port -/
theorem srch_some {f : Nat → Bool} {p : Nat} (hp : f p = true) (hf : ∀ q, q < p → f q = false) : ∀ (k i : Nat), i ≤ p → p < i + k → srch f k i = some p
  | 0, i, h1, h2 => by omega
  | k + 1, i, h1, h2 => by
    simp only [srch]
    by_cases h : i = p
    · subst h; rw [hp]; rfl
    · rw [hf i (by omega)]
      exact srch_some hp hf k (i + 1) (by omega) (by omega)
/-- What the law asks of a port p of node n. -/
structure PortOf (X : Cx) (n p b q : Nat) : Prop where
  lt : p < 2 * X.ls.length
  ltq : q < 2 * X.ls.length
  fr : ansAt X 42 p = n
  to : ansAt X 44 p = b
  bk : ansAt X 56 p = q
  frq : ansAt X 42 q = b
  bkq : ansAt X 56 q = p
  fnd : findS X n b = some p
theorem portOf {X : Cx} {n : Nat} (h24 : X.ls.length ≤ 24) (hg : GoodL X.S X.N X.ls) {p : Nat} (hp : p < 2 * X.ls.length) (hn : ansAt X 42 p = n) : ∃ b q, PortOf X n p b q ∧ (b : Int) < X.N := by
  have hlt : p / 2 < X.ls.length := by omega
  have hgl : ∀ i, i < X.ls.length → X.ls[i]? = some (X.ls.getD i d0) := fun i hi => by rw [List.getD_eq_getElem?_getD, List.getElem?_eq_getElem hi]; rfl
  have hk : ∀ i, i < X.ls.length → k1 X.N (X.ls.getD i d0) = true := fun i hi => by
    have := (hg i _ (hgl i hi)).1
    unfold linkS at this
    simp only [Bool.and_eq_true] at this
    exact this.1
  have hj : ∀ i j, i < X.ls.length → j < i → joinsS (X.ls.getD j d0) (X.ls.getD i d0).a (X.ls.getD i d0).b = false := fun i j hi hji => (hg i _ (hgl i hi)).2 j _ hji (hgl j (by omega))
  have hab : ∀ i, i < X.ls.length → (X.ls.getD i d0).a ≠ (X.ls.getD i d0).b := fun i hi => by
    have := hk i hi
    unfold k1 at this
    simp only [Bool.and_eq_true, bne_iff_ne] at this
    exact this.2
  obtain ⟨e1, e2, e3, e4⟩ := ends_of (hk _ hlt)
  -- no other port sends the same way
  have uniq : ∀ r, r < p → ansAt X 42 r = ansAt X 42 p → ansAt X 44 r = ansAt X 44 p → False := fun r hr h1 h2 => by
    have hrl : r / 2 < X.ls.length := by omega
    have hab1 := hab _ hlt
    have hab2 := hab _ hrl
    by_cases hh : r / 2 = p / 2
    · have er : r = 2 * (r / 2) := by omega
      have ep : p = 2 * (r / 2) + 1 := by omega
      rw [er, ep, fr_even, fr_odd] at h1
      exact hab2 h1
    · have hjj := hj (p / 2) (r / 2) hlt (by omega)
      unfold joinsS at hjj
      simp only [Bool.or_eq_false_iff, Bool.and_eq_false_iff, beq_eq_false_iff_ne, ne_eq] at hjj
      rcases (show r = 2 * (r / 2) ∨ r = 2 * (r / 2) + 1 by omega) with er | er <;> rcases (show p = 2 * (p / 2) ∨ p = 2 * (p / 2) + 1 by omega) with ep | ep <;> rw [er, ep] at h1 h2 <;> simp only [fr_even, fr_odd, to_even, to_odd] at h1 h2 <;> omega
  have fin : ∀ b q : Nat, q < 2 * X.ls.length → ansAt X 44 p = b → ansAt X 56 p = q → ansAt X 42 q = b → ansAt X 56 q = p → PortOf X n p b q := fun b q h1 h2 h3 h4 h5 =>
    ⟨hp, h1, hn, h2, h3, h4, h5, by
      unfold findS
      refine srch_some (by unfold pmS; rw [hn, h2]; simp) (fun r hr => ?_) _ _ (Nat.zero_le _) (by omega)
      cases hb : pmS X n b r with
      | false => rfl
      | true =>
        exfalso
        unfold pmS at hb
        simp only [Bool.and_eq_true, beq_iff_eq] at hb
        exact uniq r hr (by rw [hb.1, hn]) (by rw [hb.2, h2])⟩
  rcases (show p = 2 * (p / 2) ∨ p = 2 * (p / 2) + 1 by omega) with ep | ep
  · refine ⟨(X.ls.getD (p / 2) d0).b.toNat, 2 * (p / 2) + 1, fin _ _ (by omega) ?_ ?_ ?_ ?_, by omega⟩
    · have := to_even X (p / 2); rw [← ep] at this; rw [this]; omega
    · have := back_even X (i := p / 2) (by omega); rw [← ep] at this; rw [this]; omega
    · rw [fr_odd]; omega
    · rw [back_odd X (by omega)]; omega
  · refine ⟨(X.ls.getD (p / 2) d0).a.toNat, 2 * (p / 2), fin _ _ (by omega) ?_ ?_ ?_ ?_, by omega⟩
    · have := to_odd X (p / 2); rw [← ep] at this; rw [this]; omega
    · have := back_odd X (i := p / 2) (by omega); rw [← ep] at this; exact this
    · rw [fr_even]; omega
    · rw [back_even X (by omega)]; omega
theorem mem_ports {X : Cx} {a x : Int} (h : x ∈ portsS X a) : ∃ p : Nat, x = p ∧ p < 2 * X.ls.length ∧ ansAt X 42 p = a := by
  rw [portsS_eq] at h
  obtain ⟨p, hp, rfl⟩ := List.mem_map.1 h
  rw [List.mem_filter] at hp
  exact ⟨p, rfl, List.mem_range.1 hp.1, by simpa using hp.2⟩
/-- How many ports a node has. -/
theorem ports_deg (X : Cx) (n : Nat) : (portsS X n).length = deg X.ls n := by
  rw [portsS_eq, List.length_map]
  have key : ∀ (m : Nat), m ≤ X.ls.length → ((List.range (2 * m)).filter fun q => ansAt X 42 (q : Nat) == (n : Int)).length = deg (X.ls.take m) n := by
    intro m
    induction m with
    | zero => intro _; rfl
    | succ m ih =>
      intro hm
      have hl : X.ls.take (m + 1) = X.ls.take m ++ [X.ls.getD m d0] := by
        rw [List.take_add_one, List.getD_eq_getElem?_getD, List.getElem?_eq_getElem (by omega)]; rfl
      rw [hl, deg_app, ← ih (by omega), show 2 * (m + 1) = 2 * m + 1 + 1 by omega, List.range_succ, List.range_succ, List.filter_append, List.filter_append, List.length_append, List.length_append]
      have f1 : ([2 * m].filter fun q => ansAt X 42 (q : Nat) == (n : Int)).length = bif (X.ls.getD m d0).a == (n : Int) then 1 else 0 := by
        rw [List.filter_cons, List.filter_nil, fr_even]
        cases ((X.ls.getD m d0).a == (n : Int)) <;> rfl
      have f2 : ([2 * m + 1].filter fun q => ansAt X 42 (q : Nat) == (n : Int)).length = bif (X.ls.getD m d0).b == (n : Int) then 1 else 0 := by
        rw [List.filter_cons, List.filter_nil, fr_odd]
        cases ((X.ls.getD m d0).b == (n : Int)) <;> rfl
      rw [f1, f2]; omega
  have := key X.ls.length (Nat.le_refl _)
  rwa [List.take_length] at this
end Go.Proofs.Ytkngbmaomgfcjaa.topo
/- TopoTurns: contracts at its names, and its loops. -/
namespace Go.Proofs.Ytkngbmaomgfcjaa.topo
open Go Go.En
set_option linter.unusedVariables false

def tplD (D : Dr) : Value := tpv (SS D).length (SS D).length (L5 D).length 8 42
def VD (D : Dr) : List (Nat × List Value) := [(8, bc (SS D)), (42, lcs (L5 D))]
theorem nn_eq (D : Dr) : nnS D = (SS D).length := (SS_len D).symm
theorem XD_at {D : Dr} {f : FuncId} {rest : List Value} {v v' : Value} {new new' : List (Nat × List Value)} {n' nx' : Nat} (h : Memo.Ok Try.prog ⟨f, 2, (XD D).v :: rest, (XD D).V, v, new, n'⟩) (nx : Nat) (hc : (En.smallL (En.small 2 5) rest && En.small n' 5 v && inNew 2 n' new) = true) (hns : En.smallH n' new = true)
    (h1 : rest.map (renV (shift (ρ2n 8 42) 2 nx) 5) = rest) (h2 : renV (shift (ρ2n 8 42) 2 nx) 5 v = v') (h3 : renH (shift (ρ2n 8 42) 2 nx) new = new') (h4 : nx + (n' - 2) = nx') : Memo.Ok Try.prog ⟨f, nx, tplD D :: rest, VD D, v', new', nx'⟩ := by
  simp only [Bool.and_eq_true] at hc
  have hb : below 2 (XD D).V = true := by kernel_rfl
  have := memo_ren h (ρ2n 8 42) nx (VD D) (by simp only [En.smallL, (XD D).small (Nat.le_refl 2), hc.1.1, hc.1.2, hc.2, hb, Bool.and_self]) ((XD D).smallH 2) hns (fun b cs hb => by
    by_cases h0 : 0 = b
    · subst h0
      simp [Cx.V, VD, roHp, Hp.get, ρ2n] at hb ⊢
      subst hb
      exact (renV_avL (bc_av _)).symm
    · by_cases h1 : 1 = b
      · subst h1
        simp [Cx.V, VD, roHp, Hp.get, ρ2n] at hb ⊢
        subst hb
        exact (renV_avL (lcs_av _)).symm
      · simp [Cx.V, roHp, Hp.get, h0, h1] at hb)
  have hr : renV (shift (ρ2n 8 42) 2 nx) 5 (XD D).v = tplD D := by
    unfold tplD
    rw [show (((SS D).length : Nat) : Int) = ((nnS D : Nat) : Int) by rw [nn_eq]]
    rfl
  rw [List.map_cons, hr, h1, h2, h3, h4] at this
  exact this
def pv (r : Int) : Value := .tuple #[.int .i64 r, .int .i64 0]
theorem prt_m (D : Dr) {f g : Nat} (hg : (f = 24 ∧ g = 42) ∨ (f = 25 ∧ g = 44) ∨ (f = 26 ∧ g = 54) ∨ (f = 27 ∧ g = 55) ∨ (f = 28 ∧ g = 56)) {p : Nat} (hp : p < 2 * (L5 D).length) {r : Int} (hr : ansAt (XD D) g p = r) (nx : Nat) :
    Memo.Ok Try.prog ⟨f, nx, [tplD D, .int .i64 p], VD D, pv r, [], nx⟩ := by
  have h := port_0 (XD D) (XD_d D) (XD_d2 D) hg (p : Int) (XD_check D) (portOk_of (X := XD D) hp) 2
  rw [hr] at h
  exact XD_at h nx (by kernel_rfl) rfl rfl rfl rfl rfl
theorem node_in {D : Dr} {n : Nat} (h : n < (SS D).length) : nodeS (XD D).N (n : Int) = true := by
  unfold nodeS
  have : (XD D).N = ((SS D).length : Int) := by rw [← nn_eq]; rfl
  rw [this]
  simp only [Bool.and_eq_true, decide_eq_true_eq]
  omega
theorem fnd_m (D : Dr) {a b p : Nat} (ha : a < (SS D).length) (hb : b < (SS D).length) (hf : findS (XD D) a b = some p) (nx : Nat) : Memo.Ok Try.prog ⟨13, nx, [tplD D, .int .i64 a, .int .i64 b], VD D, pv p, [], nx⟩ := by
  have h := find_0 (XD D) (XD_d D) (XD_d2 D) (a : Int) (b : Int) (XD_check D) (node_in ha) (node_in hb) hf
  exact XD_at h nx (by kernel_rfl) rfl rfl rfl rfl rfl
theorem chk_m (D : Dr) (nx : Nat) : Memo.Ok Try.prog ⟨37, nx, [tplD D], VD D, .int .i64 0, [], nx⟩ := by
  have h := check_0 (XD D) (XD_d D) (XD_d2 D)
  rw [XD_check] at h
  exact XD_at h nx (by kernel_rfl) rfl rfl rfl rfl rfl
def slP (l : List Int) : Value := .slice (some ⟨60, 0, none⟩) l.length oc1
theorem pts_m (D : Dr) {n : Nat} (hn : n < (SS D).length) {x : Int} {r : List Int} (hL : portsS (XD D) n = x :: r) : Memo.Ok Try.prog ⟨12, 53, [tplD D, .int .i64 n], VD D, .tuple #[slP (x :: r), .int .i64 0], [(60, ic (x :: r))], 68⟩ := by
  have h := ports_0 (XD D) (XD_d D) (XD_d2 D) (n : Int) (fun _ => L5_len D) (XD_check D) (node_in hn) hL
  have e : renH (shift (ρ2n 8 42) 2 53) [(9, ic (x :: r))] = [(60, ic (x :: r))] := by
    simp only [renH, ic_ren]; rfl
  have hsm : En.smallH 17 (newL 9 (x :: r)) = true := newL_small _ _ _
  exact XD_at h 53 (by kernel_rfl) hsm rfl rfl e rfl
theorem topo_5 (D : Dr) : Memo.Ok Try.prog ⟨21, 5, [D.v], D.V, tplD D, [(42, lcs (L5 D)), (8, bc (SS D))], 51⟩ := by
  have h := topo_0 D
  have hs : small 50 5 (topoV D) = true := by
    unfold topoV tvT tcs slK
    cases L5 D <;> kernel_rfl
  have := memo_ren h (fun b => b) 5 D.V (by
    have hv : small 4 5 D.v = true := D.small (Nat.le_refl 4) 4
    have h1 : En.smallL (small 4 5) [D.v] = true := by simp only [En.smallL, hv, Bool.and_true]
    have h2 : below 4 D.V = true := by kernel_rfl
    have h3 : inNew 4 50 [(41, lcs (L5 D)), (7, bc (SS D))] = true := by kernel_rfl
    rw [h1, h2, hs, h3]; rfl) (by simp [En.smallH, Dr.V, small_avL (ucs_av _)]) (by simp [En.smallH, small_avL (lcs_av _), small_avL (bc_av _)]) (fun b cs hb => by
      rw [hb]
      have hav : avL cs = true := by
        by_cases h0 : 0 = b
        · subst h0; simp [Dr.V, roHp, Hp.get] at hb; subst hb; exact ucs_av _
        · by_cases h1 : 1 = b
          · subst h1; simp [Dr.V, roHp, Hp.get] at hb; subst hb; exact ucs_av _
          · by_cases h2 : 2 = b
            · subst h2; simp [Dr.V, roHp, Hp.get] at hb; subst hb; exact ucs_av _
            · by_cases h3 : 3 = b
              · subst h3; simp [Dr.V, roHp, Hp.get] at hb; subst hb; exact ucs_av _
              · simp [Dr.V, roHp, Hp.get, h0, h1, h2, h3] at hb
      rw [renV_avL hav])
  have e1 : renV (shift (fun b => b) 4 5) 5 (topoV D) = tplD D := by
    have hn := L5_ne D
    unfold tplD topoV tvT tcs slK
    rw [← nn_eq]
    cases hL : L5 D with
    | nil => exact absurd hL hn
    | cons x r => rfl
  have e2 : renH (shift (fun b => b) 4 5) [(41, lcs (L5 D)), (7, bc (SS D))] = [(42, lcs (L5 D)), (8, bc (SS D))] := by
    simp only [renH, renV_avL (lcs_av _), renV_avL (bc_av _)]; rfl
  have e3 : [D.v].map (renV (shift (fun b => b) 4 5) 5) = [D.v] := by
    have := D.renC (σ := shift (fun b => b) 4 5) rfl rfl rfl rfl 4
    show [Value.agg (D.cells.map (renV (shift (fun b => b) 4 5) 4)).toArray] = _
    rw [this]; rfl
  rw [e1, e2, e3] at this
  exact this

/-! ### The ports of one node -/
def TB9 (M : List Int) (l : List Int) (N n : Nat) (j : Int) : List Value := mkT 171 0 [(3, pt 51), (4, slL 52 M), (5, .int .i64 n), (6, slP l), (32, .int .i64 N), (33, .int .i64 n), (61, slP l), (62, .int .i64 l.length), (63, .int .i64 j)]
def TBX (M : List Int) (l : List Int) (N n : Nat) : List Value := mkT 171 0 [(3, pt 51), (4, slL 52 M), (6, slP l), (32, .int .i64 N), (33, .int .i64 n)]
def HB9 (D : Dr) (l : List Int) : Hp := [(51, .cells (tpc (SS D).length (SS D).length (L5 D).length 8 42) false), (42, .cells (lcs (L5 D)) false), (8, .cells (bc (SS D)) false), (60, .cells (ic l) false)]
theorem HB9_below (D : Dr) (l : List Int) : hpBelow 71 (HB9 D l) = true := by
  have a1 : tidyB 71 (.cells (tpc (SS D).length (SS D).length (L5 D).length 8 42) false) = true := rfl
  have a2 : tidyB 71 (.cells (lcs (L5 D)) false) = true := small_avL (lcs_av _)
  have a3 : tidyB 71 (.cells (bc (SS D)) false) = true := small_avL (bc_av _)
  have a4 : tidyB 71 (.cells (ic l) false) = true := small_avL (ic_av _)
  simp only [HB9, hpBelow, a1, a2, a3, a4]; rfl
theorem bp_go (D : Dr) {M l : List Int} {n j p b q : Nat} (hn : n < (SS D).length) (hb : b < (SS D).length) (hj : j < l.length) (hp : l.getD j 0 = (p : Int)) (h : PortOf (XD D) n p b q) :
    CodeOk Try.prog none (lp Try.prog 9 14) (TB9 M l (SS D).length n j) [] (HB9 D l) 71 ⟨.normal, TB9 M l (SS D).length n (W (j + 1)), [], HB9 D l, 71⟩ := by
  have hd : decide ((j : Int) < l.length) = true := decide_eq_true (by omega)
  have ix1 : doIndexAddr Try.prog 28 (slP l) (.int .i64 j) = _ := ix_i hj
  have ld1 := ld_i (b := 60) (ro := false) hj
  rw [hp] at ld1
  have m1 := prt_m D (f := 24) (g := 42) (by omega) h.lt h.fr 71
  have m2 := prt_m D (f := 25) (g := 44) (by omega) h.lt h.to 71
  have m3 := prt_m D (f := 28) (g := 56) (by omega) h.lt h.bk 71
  have m4 := prt_m D (f := 24) (g := 42) (by omega) h.ltq h.frq 71
  have m5 := prt_m D (f := 28) (g := 56) (by omega) h.ltq h.bkq 71
  have m6 := fnd_m D hn hb h.fnd 71
  have e1 : ((n : Int) != (n : Int)) = false := by simp
  have e2 : ((b : Int) != (b : Int)) = false := by simp
  have e3 : ((p : Int) != (p : Int)) = false := by simp
  have hB := HB9_below D l
  cases M <;>
    exact code_at (hs := [(64, .val (.bool (decide ((j : Int) < l.length))) (.bool true)), (65, .ix 28 (slP l) (.int .i64 j) _), (66, .ld 3 _ 60 (ic l) false _), (70, .call _), (76, .call _), (82, .call _), (88, .call _), (94, .call _), (101, .call _), (129, .val (.bool ((n : Int) != (n : Int))) (.bool false)), (134, .val (.bool ((b : Int) != (b : Int))) (.bool false)), (139, .val (.bool ((p : Int) != (p : Int))) (.bool false)), (144, .val (.bool ((p : Int) != (p : Int))) (.bool false))]) (ch := []) (evk 50) special
      ⟨congrArg Value.bool hd, ix1, ⟨ld1, _, rfl⟩, m1, m2, m3, m4, m5, m6, congrArg Value.bool e1, congrArg Value.bool e2, congrArg Value.bool e3, congrArg Value.bool e3, trivial⟩ trivial (by kernel_rfl) hB hB (by kernel_rfl)
theorem bp_out (D : Dr) {M l : List Int} {n : Nat} : CodeOk Try.prog none (lp Try.prog 9 14) (TB9 M l (SS D).length n l.length) [] (HB9 D l) 71 ⟨.exit 2, TBX M l (SS D).length n, [], HB9 D l, 71⟩ := by
  have hd : decide ((l.length : Int) < l.length) = false := decide_eq_false (by omega)
  have hB := HB9_below D l
  cases M <;> exact code_at (hs := [(64, .val (.bool (decide ((l.length : Int) < l.length))) (.bool false))]) (ch := []) (evk 50) special ⟨congrArg Value.bool hd, trivial⟩ trivial (by kernel_rfl) hB hB (by kernel_rfl)
theorem bp_loop (D : Dr) {M l : List Int} {n : Nat} (hn : n < (SS D).length) (hl : l.length ≤ 1000) (hp : ∀ x ∈ l, ∃ p b q : Nat, x = p ∧ b < (SS D).length ∧ PortOf (XD D) n p b q) : ∀ (k j : Nat), j + k = l.length →
    LoopOk Try.prog none (lp Try.prog 9 14) (TB9 M l (SS D).length n j) [] (HB9 D l) 71 ⟨.exit 2, TBX M l (SS D).length n, [], HB9 D l, 71⟩
  | 0, j, h => by
    have : j = l.length := by omega
    subst this
    exact loopOk_out (bp_out D) (by show Exit.exit 2 ≠ Exit.normal; simp)
  | k + 1, j, h => by
    have hj : j < l.length := by omega
    have hg : l.getD j 0 = l[j] := by simp [List.getD_eq_getElem?_getD, hj]
    obtain ⟨p, b, q, e, hb, hpo⟩ := hp l[j] (List.getElem_mem hj)
    have h1 := bp_go D (M := M) hn hb hj (by rw [hg]; exact e) hpo
    rw [show (j : Int) + 1 = ((j + 1 : Nat) : Int) by push_cast; rfl, wrapN (by omega)] at h1
    exact loop_step h1 (bp_loop D hn hl hp k (j + 1) (by omega))
termination_by k => k

/-! ### All nodes -/
theorem app_nl {b : Nat} {l : List Int} (h0 : 0 < l.length) (hlen : l.length ≤ 900) :
    Hint.Ok Try.prog (.app [28, 28] 28 [.slice none 0 0, .slice (some ⟨b, 0, none⟩) l.length oc1] [(b, ic l)] none l.length oc1 (ic l)) := by
  intro H nx hV _
  obtain ⟨inf, z, h1, h2, h3, h4, h5⟩ := i3
  obtain ⟨r2, g2⟩ := hV b (ic l) (by simp)
  have e2 := src_f (e := openCap + 1) g2
  have hml : l.length ≤ maxLen := by unfold maxLen; omega
  have hby : l.length * 8 ≤ 140737488355328 := by omega
  have h10 : ¬ (l.length = 0) := by omega
  simp only [doBuiltin, if_true, doAppend, oc1, u28, h1, h2, h3, h4, e2, h5, h10, hml, hby, if_false, and_self, Nat.zero_lt_one, delO]
theorem app_ll {a b : Nat} {M l : List Int} (h0 : 0 < l.length) (hlen : M.length + l.length ≤ 900) :
    Hint.Ok Try.prog (.app [28, 28] 28 [.slice (some ⟨a, 0, none⟩) M.length oc1, .slice (some ⟨b, 0, none⟩) l.length oc1] [(a, ic M), (b, ic l)] (some a) (M ++ l).length oc1 (ic (M ++ l))) := by
  intro H nx hV hrw
  obtain ⟨inf, z, h1, h2, h3, h4, h5⟩ := i3
  obtain ⟨r1, g1⟩ := hV a (ic M) (by simp)
  obtain ⟨r2, g2⟩ := hV b (ic l) (by simp)
  have hr1 : r1 = false := by simp only [rwO, g1] at hrw; cases r1 <;> simp at hrw ⊢
  subst hr1
  have e1 := src_f (e := openCap + 1) g1
  have e2 := src_f (e := openCap + 1) g2
  have hnc : openCap ≤ openCap + 1 := by omega
  have hml : M.length + l.length ≤ maxLen := by unfold maxLen; omega
  have hby : (M.length + l.length) * 8 ≤ 140737488355328 := by omega
  have hlt : ¬ (openCap + 1 < M.length + l.length) := by unfold openCap; omega
  have hap : ic M ++ ic l = ic (M ++ l) := by simp [ic]
  have hln : M.length + l.length = (M ++ l).length := by simp
  have h10 : ¬ (l.length = 0) := by omega
  simp only [doBuiltin, if_true, doAppend, oc1, u28, h1, h2, h3, h4, e2, h5, e1, h10, hlt, hml, hby, hnc, if_false, and_self, Nat.zero_lt_one, delO, Nat.add_sub_cancel_left, imp_self, g1, oneL_ic, hap, ← hln]
def TA9 (k : Nat) (M : List Int) (N : Nat) (n : Int) : List Value := mkT 171 0 [(3, pt 51), (4, slL k M), (32, .int .i64 N), (33, .int .i64 n)]
def TAX (M : List Int) : List Value := mkT 171 0 [(3, pt 51), (4, slL 52 M)]
def HA9 (D : Dr) (k : Nat) (M : List Int) : Hp := hpL k M [(51, .cells (tpc (SS D).length (SS D).length (L5 D).length 8 42) false), (42, .cells (lcs (L5 D)) false), (8, .cells (bc (SS D)) false)]
theorem ap_go (D : Dr) {M : List Int} {n : Nat} {x : Int} {r : List Int} {s : Bool} (hM : M.length + (x :: r).length ≤ 900) (hn : n < (SS D).length) (hs : (SS D).getD n false = s) (hL : portsS (XD D) n = x :: r) (h2 : s = true → (x :: r).length ≤ 2)
    (hp : ∀ y ∈ x :: r, ∃ p b q : Nat, y = p ∧ b < (SS D).length ∧ PortOf (XD D) n p b q) :
    CodeOk Try.prog none (lp Try.prog 9 8) (TA9 52 M (SS D).length n) [] (HA9 D 52 M) 53 ⟨.normal, TA9 71 (M ++ (x :: r)) (SS D).length (W (n + 1)), [], HA9 D 71 (M ++ (x :: r)), 72⟩ := by
  have hd : decide ((n : Int) < (SS D).length) = true := decide_eq_true (by omega)
  have mp := pts_m D hn hL
  have ixs := ix_b (b := 8) (c := oc1) hn
  have lds := ld_b (b := 8) (ro := false) hn
  rw [hs] at lds
  have hB := bp_loop D (M := M) hn (by omega) hp (x :: r).length 0 (by omega)
  have hlo := loopOk_low (m := 69) hB (by omega)
  have c1 : decide (((x :: r).length : Int) < 1) = false := decide_eq_false (by simp; omega)
  cases M with
  | nil =>
    have ap := app_nl (b := 60) (l := x :: r) (by simp) (by simp at hM ⊢; omega)
    cases s with
    | true =>
      have c2 : decide (((x :: r).length : Int) > 2) = false := decide_eq_false (by have := h2 rfl; omega)
      exact code_k [71, 51, 42, 8] (hs := [(34, .val (.bool (decide ((n : Int) < (SS D).length))) (.bool true)), (39, .call _), (48, .ix 22 (.slice (some ⟨8, 0, none⟩) (SS D).length oc1) (.int .i64 n) _), (49, .ld 4 _ 8 (bc (SS D)) false _), (53, .val (.bool (decide (((x :: r).length : Int) < 1))) (.bool false)), (57, .val (.bool (decide (((x :: r).length : Int) > 2))) (.bool false)), (149, .app _ _ _ _ _ _ _ _)]) (ch := [⟨14, none, .loop (lp Try.prog 9 14), TB9 [] (x :: r) (SS D).length n 0, [], HB9 D (x :: r), 71, _, false⟩]) (evk 50) special
        ⟨congrArg Value.bool hd, mp, ixs, ⟨lds, _, rfl⟩, congrArg Value.bool c1, congrArg Value.bool c2, ap, trivial⟩ ⟨codeOk_loop hB, trivial⟩ (by kernel_rfl)
    | false =>
      exact code_k [71, 51, 42, 8] (hs := [(34, .val (.bool (decide ((n : Int) < (SS D).length))) (.bool true)), (39, .call _), (48, .ix 22 (.slice (some ⟨8, 0, none⟩) (SS D).length oc1) (.int .i64 n) _), (49, .ld 4 _ 8 (bc (SS D)) false _), (149, .app _ _ _ _ _ _ _ _)]) (ch := [⟨14, none, .loop (lp Try.prog 9 14), TB9 [] (x :: r) (SS D).length n 0, [], HB9 D (x :: r), 69, _, false⟩]) (evk 50) special
        ⟨congrArg Value.bool hd, mp, ixs, ⟨lds, _, rfl⟩, ap, trivial⟩ ⟨codeOk_loop hlo, trivial⟩ (by kernel_rfl)
  | cons y0 r0 =>
    have ap := app_ll (a := 52) (b := 60) (M := y0 :: r0) (l := x :: r) (by simp) hM
    cases s with
    | true =>
      have c2 : decide (((x :: r).length : Int) > 2) = false := decide_eq_false (by have := h2 rfl; omega)
      exact code_k [71, 51, 42, 8] (hs := [(34, .val (.bool (decide ((n : Int) < (SS D).length))) (.bool true)), (39, .call _), (48, .ix 22 (.slice (some ⟨8, 0, none⟩) (SS D).length oc1) (.int .i64 n) _), (49, .ld 4 _ 8 (bc (SS D)) false _), (53, .val (.bool (decide (((x :: r).length : Int) < 1))) (.bool false)), (57, .val (.bool (decide (((x :: r).length : Int) > 2))) (.bool false)), (149, .app _ _ _ _ _ _ _ _)]) (ch := [⟨14, none, .loop (lp Try.prog 9 14), TB9 (y0 :: r0) (x :: r) (SS D).length n 0, [], HB9 D (x :: r), 71, _, false⟩]) (evk 50) special
        ⟨congrArg Value.bool hd, mp, ixs, ⟨lds, _, rfl⟩, congrArg Value.bool c1, congrArg Value.bool c2, ap, trivial⟩ ⟨codeOk_loop hB, trivial⟩ (by kernel_rfl)
    | false =>
      exact code_k [71, 51, 42, 8] (hs := [(34, .val (.bool (decide ((n : Int) < (SS D).length))) (.bool true)), (39, .call _), (48, .ix 22 (.slice (some ⟨8, 0, none⟩) (SS D).length oc1) (.int .i64 n) _), (49, .ld 4 _ 8 (bc (SS D)) false _), (149, .app _ _ _ _ _ _ _ _)]) (ch := [⟨14, none, .loop (lp Try.prog 9 14), TB9 (y0 :: r0) (x :: r) (SS D).length n 0, [], HB9 D (x :: r), 69, _, false⟩]) (evk 50) special
        ⟨congrArg Value.bool hd, mp, ixs, ⟨lds, _, rfl⟩, ap, trivial⟩ ⟨codeOk_loop hlo, trivial⟩ (by kernel_rfl)
theorem ap_out (D : Dr) {M : List Int} : CodeOk Try.prog none (lp Try.prog 9 8) (TA9 52 M (SS D).length (SS D).length) [] (HA9 D 52 M) 53 ⟨.exit 0, TAX M, [], HA9 D 52 M, 53⟩ := by
  have hd : decide (((SS D).length : Int) < (SS D).length) = false := decide_eq_false (by omega)
  cases M with
  | nil => exact code_k [51, 42, 8] (hs := [(34, .val (.bool (decide (((SS D).length : Int) < (SS D).length))) (.bool false))]) (ch := []) (evk 50) special ⟨congrArg Value.bool hd, trivial⟩ trivial (by kernel_rfl)
  | cons y r => exact code_k [52, 51, 42, 8] (hs := [(34, .val (.bool (decide (((SS D).length : Int) < (SS D).length))) (.bool false))]) (ch := []) (evk 50) special ⟨congrArg Value.bool hd, trivial⟩ trivial (by kernel_rfl)
def σ9 : Nat → Nat := fun b => if b = 52 then 71 else b
theorem σ9_lt : ∀ b, b < 52 → σ9 b = b := fun b hb => by simp only [σ9]; rw [if_neg (by omega)]
theorem HA9_ren (D : Dr) (M : List Int) : renHp σ9 (HA9 D 52 M) = HA9 D 71 M := by
  have e1 : (lcs (L5 D)).map (renV σ9 5) = lcs (L5 D) := renV_avL (lcs_av _)
  have e3 : (bc (SS D)).map (renV σ9 5) = bc (SS D) := renV_avL (bc_av _)
  have e2 : (tpc (SS D).length (SS D).length (L5 D).length 8 42).map (renV σ9 5) = tpc (SS D).length (SS D).length (L5 D).length 8 42 := rfl
  have s52 : σ9 52 = 71 := rfl
  cases M with
  | nil => simp only [HA9, hpL, renHp, renBlk, e1, e2, e3, σ9_lt 51 (by omega), σ9_lt 42 (by omega), σ9_lt 8 (by omega)]
  | cons x r => simp only [HA9, hpL, renHp, renBlk, e1, e2, e3, σ9_lt 51 (by omega), σ9_lt 42 (by omega), σ9_lt 8 (by omega), s52, ic_ren]
theorem TA9_ren (M : List Int) (N : Nat) (n : Int) : (TA9 52 M N n).map (renV σ9 5) = TA9 71 M N n := by cases M <;> kernel_rfl
theorem HA9_below (D : Dr) (M : List Int) : hpBelow 53 (HA9 D 52 M) = true := by
  have a1 : tidyB 53 (.cells (tpc (SS D).length (SS D).length (L5 D).length 8 42) false) = true := rfl
  have a2 : tidyB 53 (.cells (lcs (L5 D)) false) = true := small_avL (lcs_av _)
  have a3 : tidyB 53 (.cells (bc (SS D)) false) = true := small_avL (bc_av _)
  cases M with
  | nil => simp only [HA9, hpL, hpBelow, a1, a2, a3]; rfl
  | cons x r =>
    have a4 : tidyB 53 (.cells (ic (x :: r)) false) = true := small_avL (ic_av _)
    simp only [HA9, hpL, hpBelow, a1, a2, a3, a4]; rfl
theorem ap_loop (D : Dr) (h : ∀ n, n < (SS D).length → portsS (XD D) n ≠ [] ∧ ((SS D).getD n false = true → (portsS (XD D) n).length ≤ 2) ∧ (portsS (XD D) n).length ≤ 48 ∧ ∀ y ∈ portsS (XD D) n, ∃ p b q : Nat, y = p ∧ b < (SS D).length ∧ PortOf (XD D) n p b q) (hN : (SS D).length ≤ 12) :
    ∀ (k n : Nat) (M : List Int), n + k = (SS D).length → M.length ≤ 48 * n → LoopL Try.prog 52 none (lp Try.prog 9 8) (TA9 52 M (SS D).length n) [] (HA9 D 52 M) 53 ⟨.exit 0, TAX (M ++ flatP (XD D) k n), [], HA9 D 52 (M ++ flatP (XD D) k n), 72⟩
  | 0, n, M, hn, hM => by
    have : n = (SS D).length := by omega
    subst this
    simp only [flatP, List.append_nil]
    exact loopL_out (ap_out D) (by show Exit.exit 0 ≠ Exit.normal; simp) (by omega) (M := 72) (by show 53 ≤ 72; omega)
  | k + 1, n, M, hn, hM => by
    obtain ⟨q1, q2, q4, q3⟩ := h n (by omega)
    obtain ⟨x, r, hx⟩ := List.exists_cons_of_ne_nil q1
    rw [hx] at q2 q3 q4
    have h1 := ap_go D (M := M) (n := n) (x := x) (r := r) (by omega) (by omega) rfl hx q2 q3
    rw [show (n : Int) + 1 = ((n + 1 : Nat) : Int) by push_cast; rfl, wrapN (by omega)] at h1
    simp only [flatP]
    rw [hx]
    have ih := ap_loop D h hN k (n + 1) (M ++ (x :: r)) (by omega) (by rw [List.length_append]; omega)
    rw [List.append_assoc] at ih
    have hne : ∃ y s, M ++ (x :: r) = y :: s := by cases M <;> simp
    refine loopL_step σ9 (n1 := 72) ?_ ih (by show 72 ≤ 72; omega) σ9_lt (by
      rw [HA9_ren]
      obtain ⟨y, s, hy⟩ := hne
      rw [hy]; kernel_rfl) (HA9_below D _)
    rw [HA9_ren, TA9_ren]
    exact h1
termination_by k => k

/-! ### The sorted list -/
def RG (m : Nat) : List Int := (List.range m).map fun q : Nat => (q : Int)
theorem RG_len (m : Nat) : (RG m).length = m := by simp [RG]
theorem RG_get {m i : Nat} (h : i < m) : (RG m).getD i 0 = (i : Int) := by simp [RG, List.getD_eq_getElem?_getD, h]
def sl52 (n : Nat) : Value := .slice (some ⟨52, 0, none⟩) n oc1
def TD9 (m : Nat) (i : Int) : List Value := mkT 171 0 [(3, pt 51), (4, sl52 m), (153, sl52 m), (154, .int .i64 m), (155, .int .i64 i)]
def TDX (m : Nat) : List Value := mkT 171 0 [(3, pt 51), (4, sl52 m)]
def HD9 (m : Nat) : Hp := [(52, .cells (ic (RG m)) false)]
theorem HD9_below (m : Nat) : hpBelow 73 (HD9 m) = true := by
  have a4 : tidyB 73 (.cells (ic (RG m)) false) = true := small_avL (ic_av _)
  simp only [HD9, hpBelow, a4]; rfl
theorem dp_go {m i : Nat} (hi : i < m) : CodeOk Try.prog none (lp Try.prog 9 29) (TD9 m i) [] (HD9 m) 73 ⟨.normal, TD9 m (W (i + 1)), [], HD9 m, 73⟩ := by
  have hd : decide ((i : Int) < m) = true := decide_eq_true (by omega)
  have ix1 : doIndexAddr Try.prog 28 (sl52 m) (.int .i64 i) = _ := ix_i hi
  have ld1 := ld_i (b := 52) (ro := false) (D := RG m) (i := i) (by rw [RG_len]; exact hi)
  rw [RG_get hi] at ld1
  have e1 : ((i : Int) != (i : Int)) = false := by simp
  exact code_at (hs := [(156, .val (.bool (decide ((i : Int) < m))) (.bool true)), (158, .ix 28 (sl52 m) (.int .i64 i) _), (159, .ld 3 _ 52 (ic (RG m)) false _), (162, .val (.bool ((i : Int) != (i : Int))) (.bool false))]) (ch := []) (evk 50) special
    ⟨congrArg Value.bool hd, ix1, ⟨ld1, _, rfl⟩, congrArg Value.bool e1, trivial⟩ trivial (by kernel_rfl) (HD9_below m) (HD9_below m) (by kernel_rfl)
theorem dp_out (m : Nat) : CodeOk Try.prog none (lp Try.prog 9 29) (TD9 m m) [] (HD9 m) 73 ⟨.exit 4, TDX m, [], HD9 m, 73⟩ := by
  have hd : decide ((m : Int) < m) = false := decide_eq_false (by omega)
  exact code_at (hs := [(156, .val (.bool (decide ((m : Int) < m))) (.bool false))]) (ch := []) (evk 50) special ⟨congrArg Value.bool hd, trivial⟩ trivial (by kernel_rfl) (HD9_below m) (HD9_below m) (by kernel_rfl)
theorem dp_loop {m : Nat} (hm : m ≤ 900) : ∀ (k i : Nat), i + k = m → LoopOk Try.prog none (lp Try.prog 9 29) (TD9 m i) [] (HD9 m) 73 ⟨.exit 4, TDX m, [], HD9 m, 73⟩
  | 0, i, h => by
    have : i = m := by omega
    subst this
    exact loopOk_out (dp_out i) (by show Exit.exit 4 ≠ Exit.normal; simp)
  | k + 1, i, h => by
    have h1 := dp_go (m := m) (i := i) (by omega)
    rw [show (i : Int) + 1 = ((i + 1 : Nat) : Int) by push_cast; rfl, wrapN (by omega)] at h1
    exact loop_step h1 (dp_loop hm k (i + 1) (by omega))
termination_by k => k
end Go.Proofs.Ytkngbmaomgfcjaa.topo
/- TopoTurns: its call; a row's draft. -/
namespace Go.Proofs.Ytkngbmaomgfcjaa.topo
open Go Go.En Go.ChangeShapes Go.WideShapes Go.RowKit
set_option linter.unusedVariables false

def HS9 (D : Dr) (M : List Int) : Hp := [(52, .cells (ic M) false), (51, .cells (tpc (SS D).length (SS D).length (L5 D).length 8 42) false), (42, .cells (lcs (L5 D)) false), (8, .cells (bc (SS D)) false), (4, .cells D.cells true)] ++ roHp D.V
theorem turns_core (D : Dr) {M : List Int} {x : Int} {r : List Int} {m : Nat} (hM : M = x :: r) (hm : m = (x :: r).length) (hm2 : m = 2 * (L5 D).length) (hm9 : m ≤ 900) (hs : srt M = RG m)
    (hlo : LoopOk Try.prog none (lp Try.prog 9 8) (TA9 52 [] (SS D).length 0) [] (HA9 D 52 []) 52 ⟨.exit 0, TAX M, [], HA9 D 52 M, 72⟩) :
    Memo.Ok Try.prog ⟨9, 4, [D.v], D.V, .bool true, [], 4⟩ := by
  have hSm : En.smallH 4 D.V = true := by simp [En.smallH, Dr.V, small_avL (ucs_av _)]
  have hV : (nodupN (roHp D.V) && below 4 D.V && En.smallL (En.small 4 5) [D.v] && En.small 4 5 (.bool true)) = true := by
    have h1 : (nodupN (roHp D.V) && below 4 D.V) = true := by kernel_rfl
    have hv : En.small 4 5 D.v = true := D.small (Nat.le_refl 4) 4
    simp only [h1, En.smallL, hv]; rfl
  subst hM
  have hsort := any_call (o := opAt Try.prog 9 27 1) (cf := .func 40) (args := #[.tmp 151]) (ats := #[28]) special (by kernel_rfl) (sort_ok (L := x :: r) (by simp) (by omega) (b := 52) (nx := 72) (H := HS9 D (x :: r)) rfl)
  have hset : (HS9 D (x :: r)).set 52 (.cells (ic (srt (x :: r))) false) = HS9 D (RG m) := by rw [hs]; rfl
  rw [hset] at hsort
  have hd := dp_loop (m := m) hm9 m 0 (by omega)
  have e1 : W (2 * ((L5 D).length : Int)) = (m : Int) := by rw [W_id (by omega)]; omega
  have e2 : ((m : Int) == (m : Int)) = true := by simp
  rw [← hm] at hsort
  have hl2 : (x :: r).length = m := hm.symm
  have hlo' : LoopOk Try.prog none (lp Try.prog 9 8) (TA9 52 [] (SS D).length 0) [] (HA9 D 52 []) 52 ⟨.exit 0, mkT 171 0 [(3, pt 51), (4, sl52 m)], [], HA9 D 52 (x :: r), 72⟩ := by
    have e : TAX (x :: r) = mkT 171 0 [(3, pt 51), (4, sl52 m)] := by
      have e0 : slL 52 (x :: r) = sl52 m := by rw [← hl2]; rfl
      unfold TAX
      rw [e0]
    rw [← e]; exact hlo
  clear hlo hl2 hm hs
  exact memo_pure (hs := [(1, .frz), (24, .call _), (27, .call _), (29, .call _), (152, .any (opAt Try.prog 9 27 1) _ _ _ _ _ _), (169, .val (.int .i64 (W (2 * ((L5 D).length : Int)))) (.int .i64 m)), (170, .val (.bool ((m : Int) == (m : Int))) (.bool true))])
    (ch := [⟨8, none, .loop (lp Try.prog 9 8), TA9 52 [] (SS D).length 0, [], HA9 D 52 [], 52, _, false⟩, ⟨29, none, .loop (lp Try.prog 9 29), TD9 m 0, [], HD9 m, 73, _, false⟩]) 75 (evk 50) special
    ⟨trivial, wakes_m 5, topo_5 D, chk_m D 52, hsort, congrArg (Value.int .i64) e1, congrArg Value.bool e2, trivial⟩ ⟨codeOk_loop hlo', codeOk_loop hd, trivial⟩ hV hSm (by kernel_rfl)
theorem turns_0 (D : Dr) : Memo.Ok Try.prog ⟨9, 4, [D.v], D.V, .bool true, [], 4⟩ := by
  obtain ⟨hE, h24, hm, hn2, hn12, hall⟩ := XD_parts D
  have I := L5_inv D
  have hN : (XD D).N = ((SS D).length : Int) := by rw [← nn_eq]; rfl
  have hnn := nn_eq D
  have hEX : ∀ l ∈ (XD D).ls, Ends (XD D).N l := fun l hl => by rw [hN]; exact hE l hl
  have hG : GoodL (XD D).S (XD D).N (XD D).ls := I.good
  have hlX : (XD D).ls.length = (L5 D).length := rfl
  have hports : ∀ n, n < (SS D).length → portsS (XD D) n ≠ [] ∧ ((SS D).getD n false = true → (portsS (XD D) n).length ≤ 2) ∧ (portsS (XD D) n).length ≤ 48 ∧ ∀ y ∈ portsS (XD D) n, ∃ p b q : Nat, y = p ∧ b < (SS D).length ∧ PortOf (XD D) n p b q := fun n hn => by
    have hdeg : (portsS (XD D) n).length = deg (L5 D) n := ports_deg (XD D) n
    have hpos := I.pos n (by omega)
    have hle := deg_le (L5 D) n
    refine ⟨fun e => by rw [e] at hdeg; simp at hdeg; omega, fun hs => ?_, by omega, fun y hy => ?_⟩
    · have hb : bnS D ≤ n := by
        unfold SS at hs
        rw [stR_get _ _ _ _ (by omega)] at hs
        simpa using hs
      have := I.hi n hb (by omega)
      omega
    · obtain ⟨p, rfl, hp, hf⟩ := mem_ports hy
      obtain ⟨b, q, hpo, hb⟩ := portOf (X := XD D) (n := n) h24 hG hp hf
      exact ⟨p, b, q, rfl, by rw [hN] at hb; omega, hpo⟩
  have hlo := loopOk_of_L (ap_loop D hports hn12 (SS D).length 0 [] (by omega) (by simp))
  rw [List.nil_append] at hlo
  have hs := srt_flat hEX hN
  have hl := flat_len hEX hN
  rw [hlX] at hs hl
  have hne : flatP (XD D) (SS D).length 0 ≠ [] := by
    intro e
    rw [e] at hl
    simp at hl
    omega
  obtain ⟨x, r, hx⟩ := List.exists_cons_of_ne_nil hne
  exact turns_core D hx (m := 2 * (L5 D).length) (by rw [← hx]; exact hl.symm) rfl (by omega) hs hlo
section
variable {T : Type} {enc : TypeId × Value → T} {w : World} {base : Nat} {spare : Nat → Bool} {held : Bool} {r : Reach} {b0 : Nat}
set_option maxRecDepth 100000 in
/-- The law's function is called with a draft. -/
theorem calls_d1 {f : FuncId} {v : Value} {d : DataW T} {ps : List MemPlace} (h0 : CellsAt w 0) (hv : Value.okWide Try.prog w r b0 46 v) (hd : DataW.Trod enc Try.prog w base spare held 46 v d ps)
    (h : ∀ D : Dr, Memo.Ok Try.prog ⟨f, 4, [D.v], D.V, .bool true, [], 4⟩) :
    Calls Try.prog f #[v] w fun e w' => e = .returned (.bool true) ∧ Below w.heap.size w w' := by
  obtain ⟨br, st, ch, ho, pe, de, s0, s1, s2, s3, c0, c1, c2, c3, M0, M1, M2, M3, z0, z1, z2, z3, rfl, h1, h2, h3, h4⟩ := open_draft (w := w) (r := r) (b0 := b0) (v := v) (enc := enc) (base := base) (spare := spare) (held := held) (d := d) (ps := ps) hv hd h0
  let D : Dr := ⟨br, st, s0, s1, s2, s3, c0, c1, c2, c3, ch, ho, pe, de, h1.sl, h2.sl, h3.sl, h4.sl⟩
  refine calls_open (φ := renL [M0, M1, M2, M3]) (us := [.agg #[.int .u8 br.x, .int .u8 st.x, z0, z1, z2, z3]]) (h D) (good_V fun b cs hb => ?_) ⟨?_, trivial⟩
  · by_cases e0 : 0 = b
    · subst e0; simp [Dr.V, roHp, Hp.get] at hb; subst hb; exact ⟨M0, rfl, h1.brel (ucs_av _)⟩
    · by_cases e1 : 1 = b
      · subst e1; simp [Dr.V, roHp, Hp.get] at hb; subst hb; exact ⟨M1, rfl, h2.brel (ucs_av _)⟩
      · by_cases e2 : 2 = b
        · subst e2; simp [Dr.V, roHp, Hp.get] at hb; subst hb; exact ⟨M2, rfl, h3.brel (ucs_av _)⟩
        · by_cases e3 : 3 = b
          · subst e3; simp [Dr.V, roHp, Hp.get] at hb; subst hb; exact ⟨M3, rfl, h4.brel (ucs_av _)⟩
          · simp [Dr.V, roHp, Hp.get, e0, e1, e2, e3] at hb
  · exact .agg' ⟨.int _ _, .int _ _, h1.rel rfl, h2.rel rfl, h3.rel rfl, h4.rel rfl, trivial⟩
end
end Go.Proofs.Ytkngbmaomgfcjaa.topo
