/- TopoReaches returns true for every topology, node and cut, and its arguments read as before. No condition. -/
import Derived.Test.YtkngbmaomgfcjaaTpN
import Derived.WalkKit
import Derived.ProofKit
namespace Go.Proofs.Ytkngbmaomgfcjaa.topo
open Go Go.En Go.ChangeShapes Go.WideShapes Go.RowKit
set_option linter.unusedVariables false

def V4 (Y : Raw) (K0 : List Int) : List (Nat × List Value) := [(0, bc Y.S), (1, lcs Y.ls), (2, ic K0)]
theorem V4_smallH (Y : Raw) (K0 : List Int) (k : Nat) : En.smallH k (V4 Y K0) = true := by simp [En.smallH, V4, small_avL (bc_av _), small_avL (lcs_av _), small_avL (ic_av _)]
theorem V4_hV (Y : Raw) (K0 : List Int) {rest : List Value} {v : Value} (h : (En.smallL (En.small 3 5) rest && En.small 3 5 v) = true) : (nodupN (roHp (V4 Y K0)) && below 3 (V4 Y K0) && En.smallL (En.small 3 5) (Y.v :: rest) && En.small 3 5 v) = true := by
  simp only [Bool.and_eq_true] at h
  have h1 : (nodupN (roHp (V4 Y K0)) && below 3 (V4 Y K0)) = true := by kernel_rfl
  simp only [h1, En.smallL, Y.small (by omega : 2 ≤ 3), h.1, h.2, Bool.and_self]
theorem take_self (K0 : List Int) : K0.take (K0.take 40).length = K0.take 40 := by
  rw [List.length_take, List.take_eq_take_iff]
  omega
theorem min_len (K0 : List Int) : (if (40 : Int) < K0.length then 40 else (K0.length : Int)) = ((K0.take 40).length : Nat) := by
  rw [List.length_take]; split <;> omega
theorem err_260 {X : Cx} {K : List Int} {q : Int} (hc : checkS X = false) : rErr X K q = some 260 := by unfold rErr; rw [hc]; rfl
theorem err_2 {X : Cx} {K : List Int} {q : Int} (hc : checkS X = true) (hb : accK X.ls.length (nodeBad X.N q) K = true) : rErr X K q = some 2 := by
  unfold rErr
  rw [hc, cutGo_any]
  rw [accK_eq] at hb
  cases hn : nodeBad X.N q with
  | true => rfl
  | false => rw [hn, Bool.false_or] at hb; rw [hb]; rfl
theorem err_no {X : Cx} {K : List Int} {q : Int} (hc : checkS X = true) (hb : accK X.ls.length (nodeBad X.N q) K = false) : rErr X K q = none := by
  unfold rErr
  rw [hc, cutGo_any]
  rw [accK_eq, Bool.or_eq_false_iff] at hb
  rw [hb.1, hb.2]; rfl

theorem reaches_4n (Y : Raw) (q : Int) : Memo.Ok Try.prog ⟨4, 3, [Y.v, .int .i64 q, .slice none ([] : List Int).length 0], V4 Y ([] : List Int), .bool true, [], 3⟩ := by
  have mf := few_m Y 4
  have hS := V4_smallH Y ([] : List Int) 3
  have hV := V4_hV Y ([] : List Int) (rest := [.int .i64 q, .slice none ([] : List Int).length 0]) (v := .bool true) (by kernel_rfl)
  have hK : ([] : List Int).length ≤ 1000 := by first | (simp; done) | (simp; omega)
  have hd := Y.few_d
  have hd2 := Y.few_d2
  cases hc : checkS Y.few with
  | false =>
    have mr := reachE_m Y.few hd hd2 hK (e := 0) (err_260 (K := ([] : List Int)) (q := q) hc) 4 8 (by omega)
    have mg := right_m Y.few hc 8
    exact memo_pure (hs := [(12, .call _), (15, .call _), (27, .call _), (31, .call _)]) (ch := []) 9 (evk 50) special ⟨wakes_m 4, mf, mr, mg, trivial⟩ trivial hV hS (by kernel_rfl)
  | true =>
    have key : ∀ p1 p2 b, decide (q < 0) = p1 → decide (q ≥ Y.few.N) = p2 → accK Y.few.ls.length (p1 || p2) ([] : List Int) = b → Memo.Ok Try.prog ⟨4, 3, [Y.v, .int .i64 q, .slice none ([] : List Int).length 0], V4 Y ([] : List Int), .bool true, [], 3⟩ := by
      intro p1 p2 b h1 h2 hb
      cases b with
      | true =>
        have mr := reachE_m Y.few hd hd2 hK (e := 0) (err_2 (K := ([] : List Int)) (q := q) hc (by unfold nodeBad; rw [h1, h2]; exact hb)) 4 8 (by omega)
        have mg := right_m Y.few hc 8
        have hlo := b_loop_4_9 Y.few (ck := 0) (q := q) (er := 2) hK ([] : List Int).length 0 (p1 || p2) (by omega)
        rw [List.drop_zero, hb] at hlo
        cases p1
        · cases p2 <;>
            exact memo_pure (hs := [(12, .call _), (15, .call _), (27, .call _), (31, .call _), (41, .val (.bool (decide (q < 0))) (.bool _)), (46, .val (.bool (decide (q ≥ Y.few.N))) (.bool _))]) (ch := [⟨9, none, .loop (lp Try.prog 4 9), T4 4 0 ([] : List Int) q (.slice none 0 0) 2 _ 0, [], H4 Y.few 4 ([] : List Int), 9, _, false⟩]) 10 (evk 50) special ⟨wakes_m 4, mf, mr, mg, congrArg Value.bool h1, congrArg Value.bool h2, trivial⟩ ⟨codeOk_loop hlo, trivial⟩ hV hS (by kernel_rfl)
        · exact memo_pure (hs := [(12, .call _), (15, .call _), (27, .call _), (31, .call _), (41, .val (.bool (decide (q < 0))) (.bool _))]) (ch := [⟨9, none, .loop (lp Try.prog 4 9), T4 4 0 ([] : List Int) q (.slice none 0 0) 2 true 0, [], H4 Y.few 4 ([] : List Int), 9, _, false⟩]) 10 (evk 50) special ⟨wakes_m 4, mf, mr, mg, congrArg Value.bool h1, trivial⟩ ⟨codeOk_loop hlo, trivial⟩ hV hS (by kernel_rfl)
      | false =>
        have hno := err_no (K := ([] : List Int)) (q := q) hc (by unfold nodeBad; rw [h1, h2]; exact hb)
        have mr := reachY_m Y.few hd hd2 hK (e := 0) hno 4 8 (by omega)
        obtain ⟨q0, q1, _⟩ := reachY_0 Y.few hd hd2 hK (e := 0) hno
        have mg := right_m Y.few hc 14
        have hlo := b_loop_4_15 Y.few (ck := 0) (n := Y.few.S.length) (q := q) (er := 0) hK ([] : List Int).length 0 (p1 || p2) (by omega)
        rw [List.drop_zero, hb] at hlo
        have hc2 := hc
        unfold checkS lateS at hc2
        simp only [Bool.and_eq_true] at hc2
        obtain ⟨hN, hn2, hn12, h24⟩ := first_true hc2.1
        have hE : ∀ l ∈ Y.few.ls, Ends Y.few.S.length l := fun l hl => hN ▸ ends_of (sndGo_mem hc2.2.1.1 l hl)
        have hcut : (cutGo Y.few.ls.length ([] : List Int) cut0).1 = true := by
          rw [cutGo_any]
          rw [accK_eq, Bool.or_eq_false_iff] at hb
          rw [hb.2]; rfl
        obtain ⟨a, rfl⟩ : ∃ n : Nat, q = n := ⟨q.toNat, by omega⟩
        have m20 := reachR_m Y.few hK (e := 0) (a := a) hN hE (by omega) 4 15 (by omega)
        have hl1 : (reachS (cutC Y.few ([] : List Int)) Y.few.ls Y.few.S.length a).length = Y.few.S.length := by unfold reachS; rw [rIter_len]; simp
        have hl2 : (reachR ([] : List Int) Y.few.ls Y.few.S.length a).length = Y.few.S.length := by unfold reachR; rw [rIterR_len]; simp
        have heq := reach_law Y.few h24 hcut Y.few.S.length a
        have meq := equal_m (p := true) (c := Y.few.S.length) (e := Y.few.S.length) (bc_av _) (bc_av _) (A := reachS (cutC Y.few ([] : List Int)) Y.few.ls Y.few.S.length a) (B := reachR ([] : List Int) Y.few.ls Y.few.S.length a) (fun _ _ h => bc_get h) (fun _ _ h => bc_get h) (by rw [hl1]; exact Y.few.hS) (by rw [heq]; exact beq_self_eq_true _) 13 16 17 (by omega)
        rw [hl1, hl2] at meq
        have n1 : decide ((a : Int) < 0) = false := decide_eq_false (by omega)
        have n2 : decide ((a : Int) ≥ Y.few.N) = false := decide_eq_false (by omega)
        rw [n1] at h1
        rw [n2] at h2
        subst h1
        subst h2
        exact memo_pure (hs := [(12, .call _), (15, .call _), (27, .call _), (31, .call _), (41, .val (.bool (decide ((a : Int) < 0))) (.bool false)), (46, .val (.bool (decide ((a : Int) ≥ Y.few.N))) (.bool false)), (82, .call _), (83, .call _)]) (ch := [⟨9, none, .loop (lp Try.prog 4 9), T4 4 0 ([] : List Int) a (.slice (some ⟨13, 0, none⟩) Y.few.S.length Y.few.S.length) 0 false 0, [], H4 Y.few 4 ([] : List Int), 15, _, false⟩]) 17 (evk 50) special ⟨wakes_m 4, mf, mr, mg, congrArg Value.bool n1, congrArg Value.bool n2, m20, meq, trivial⟩ ⟨codeOk_loop hlo, trivial⟩ hV hS (by kernel_rfl)
    exact key _ _ _ rfl rfl rfl
theorem reaches_4s (Y : Raw) {e : Nat} (hke : ([] : List Int).length ≤ e) (he : e < openCap) (q : Int) : Memo.Ok Try.prog ⟨4, 3, [Y.v, .int .i64 q, .slice (some ⟨2, 0, none⟩) ([] : List Int).length e], V4 Y ([] : List Int), .bool true, [], 3⟩ := by
  have mf := few_m Y 4
  have hS := V4_smallH Y ([] : List Int) 3
  have hV := V4_hV Y ([] : List Int) (rest := [.int .i64 q, .slice (some ⟨2, 0, none⟩) ([] : List Int).length e]) (v := .bool true) (by kernel_rfl)
  have hK : ([] : List Int).length ≤ 1000 := by first | (simp; done) | (simp; omega)
  have hd := Y.few_d
  have hd2 := Y.few_d2
  have hsl := slc_hi (t := 28) (m := 0) (n := 0) (b := 2) (sa := some ⟨2, 0, none⟩) (c := e) u28 (by kernel_rfl) (.inr rfl) (by omega) he
  cases hc : checkS Y.few with
  | false =>
    have mr := reachE_m Y.few hd hd2 hK (e := 0) (err_260 (K := ([] : List Int)) (q := q) hc) 4 8 (by omega)
    have mg := right_m Y.few hc 8
    exact memo_pure (hs := [(12, .call _), (15, .call _), (21, .slc 28 (.slice (some ⟨2, 0, none⟩) 0 e) none (some (.int .i64 (0 : Nat))) none _), (27, .call _), (31, .call _)]) (ch := []) 9 (evk 50) special ⟨wakes_m 4, mf, hsl, mr, mg, trivial⟩ trivial hV hS (by kernel_rfl)
  | true =>
    have key : ∀ p1 p2 b, decide (q < 0) = p1 → decide (q ≥ Y.few.N) = p2 → accK Y.few.ls.length (p1 || p2) ([] : List Int) = b → Memo.Ok Try.prog ⟨4, 3, [Y.v, .int .i64 q, .slice (some ⟨2, 0, none⟩) ([] : List Int).length e], V4 Y ([] : List Int), .bool true, [], 3⟩ := by
      intro p1 p2 b h1 h2 hb
      cases b with
      | true =>
        have mr := reachE_m Y.few hd hd2 hK (e := 0) (err_2 (K := ([] : List Int)) (q := q) hc (by unfold nodeBad; rw [h1, h2]; exact hb)) 4 8 (by omega)
        have mg := right_m Y.few hc 8
        have hlo := b_loop_4_9 Y.few (ck := 0) (q := q) (er := 2) hK ([] : List Int).length 0 (p1 || p2) (by omega)
        rw [List.drop_zero, hb] at hlo
        cases p1
        · cases p2 <;>
            exact memo_pure (hs := [(12, .call _), (15, .call _), (21, .slc 28 (.slice (some ⟨2, 0, none⟩) 0 e) none (some (.int .i64 (0 : Nat))) none _), (27, .call _), (31, .call _), (41, .val (.bool (decide (q < 0))) (.bool _)), (46, .val (.bool (decide (q ≥ Y.few.N))) (.bool _))]) (ch := [⟨9, none, .loop (lp Try.prog 4 9), T4 4 0 ([] : List Int) q (.slice none 0 0) 2 _ 0, [], H4 Y.few 4 ([] : List Int), 9, _, false⟩]) 10 (evk 50) special ⟨wakes_m 4, mf, hsl, mr, mg, congrArg Value.bool h1, congrArg Value.bool h2, trivial⟩ ⟨codeOk_loop hlo, trivial⟩ hV hS (by kernel_rfl)
        · exact memo_pure (hs := [(12, .call _), (15, .call _), (21, .slc 28 (.slice (some ⟨2, 0, none⟩) 0 e) none (some (.int .i64 (0 : Nat))) none _), (27, .call _), (31, .call _), (41, .val (.bool (decide (q < 0))) (.bool _))]) (ch := [⟨9, none, .loop (lp Try.prog 4 9), T4 4 0 ([] : List Int) q (.slice none 0 0) 2 true 0, [], H4 Y.few 4 ([] : List Int), 9, _, false⟩]) 10 (evk 50) special ⟨wakes_m 4, mf, hsl, mr, mg, congrArg Value.bool h1, trivial⟩ ⟨codeOk_loop hlo, trivial⟩ hV hS (by kernel_rfl)
      | false =>
        have hno := err_no (K := ([] : List Int)) (q := q) hc (by unfold nodeBad; rw [h1, h2]; exact hb)
        have mr := reachY_m Y.few hd hd2 hK (e := 0) hno 4 8 (by omega)
        obtain ⟨q0, q1, _⟩ := reachY_0 Y.few hd hd2 hK (e := 0) hno
        have mg := right_m Y.few hc 14
        have hlo := b_loop_4_15 Y.few (ck := 0) (n := Y.few.S.length) (q := q) (er := 0) hK ([] : List Int).length 0 (p1 || p2) (by omega)
        rw [List.drop_zero, hb] at hlo
        have hc2 := hc
        unfold checkS lateS at hc2
        simp only [Bool.and_eq_true] at hc2
        obtain ⟨hN, hn2, hn12, h24⟩ := first_true hc2.1
        have hE : ∀ l ∈ Y.few.ls, Ends Y.few.S.length l := fun l hl => hN ▸ ends_of (sndGo_mem hc2.2.1.1 l hl)
        have hcut : (cutGo Y.few.ls.length ([] : List Int) cut0).1 = true := by
          rw [cutGo_any]
          rw [accK_eq, Bool.or_eq_false_iff] at hb
          rw [hb.2]; rfl
        obtain ⟨a, rfl⟩ : ∃ n : Nat, q = n := ⟨q.toNat, by omega⟩
        have m20 := reachR_m Y.few hK (e := 0) (a := a) hN hE (by omega) 4 15 (by omega)
        have hl1 : (reachS (cutC Y.few ([] : List Int)) Y.few.ls Y.few.S.length a).length = Y.few.S.length := by unfold reachS; rw [rIter_len]; simp
        have hl2 : (reachR ([] : List Int) Y.few.ls Y.few.S.length a).length = Y.few.S.length := by unfold reachR; rw [rIterR_len]; simp
        have heq := reach_law Y.few h24 hcut Y.few.S.length a
        have meq := equal_m (p := true) (c := Y.few.S.length) (e := Y.few.S.length) (bc_av _) (bc_av _) (A := reachS (cutC Y.few ([] : List Int)) Y.few.ls Y.few.S.length a) (B := reachR ([] : List Int) Y.few.ls Y.few.S.length a) (fun _ _ h => bc_get h) (fun _ _ h => bc_get h) (by rw [hl1]; exact Y.few.hS) (by rw [heq]; exact beq_self_eq_true _) 13 16 17 (by omega)
        rw [hl1, hl2] at meq
        have n1 : decide ((a : Int) < 0) = false := decide_eq_false (by omega)
        have n2 : decide ((a : Int) ≥ Y.few.N) = false := decide_eq_false (by omega)
        rw [n1] at h1
        rw [n2] at h2
        subst h1
        subst h2
        exact memo_pure (hs := [(12, .call _), (15, .call _), (21, .slc 28 (.slice (some ⟨2, 0, none⟩) 0 e) none (some (.int .i64 (0 : Nat))) none _), (27, .call _), (31, .call _), (41, .val (.bool (decide ((a : Int) < 0))) (.bool false)), (46, .val (.bool (decide ((a : Int) ≥ Y.few.N))) (.bool false)), (82, .call _), (83, .call _)]) (ch := [⟨9, none, .loop (lp Try.prog 4 9), T4 4 0 ([] : List Int) a (.slice (some ⟨13, 0, none⟩) Y.few.S.length Y.few.S.length) 0 false 0, [], H4 Y.few 4 ([] : List Int), 15, _, false⟩]) 17 (evk 50) special ⟨wakes_m 4, mf, hsl, mr, mg, congrArg Value.bool n1, congrArg Value.bool n2, m20, meq, trivial⟩ ⟨codeOk_loop hlo, trivial⟩ hV hS (by kernel_rfl)
    exact key _ _ _ rfl rfl rfl
theorem reaches_7s (Y : Raw) {x0 : Int} {r0 : List Int} {e : Nat} (hke : (x0 :: r0).length ≤ e) (he : e < openCap) (q : Int) : Memo.Ok Try.prog ⟨4, 3, [Y.v, .int .i64 q, .slice (some ⟨2, 0, none⟩) (x0 :: r0).length e], V4 Y (x0 :: r0), .bool true, [], 3⟩ := by
  have mf := few_m Y 4
  have hS := V4_smallH Y (x0 :: r0) 3
  have hV := V4_hV Y (x0 :: r0) (rest := [.int .i64 q, .slice (some ⟨2, 0, none⟩) (x0 :: r0).length e]) (v := .bool true) (by kernel_rfl)
  have hK : ((x0 :: r0).take 40).length ≤ 1000 := by first | (simp; done) | (simp; omega)
  have hd := Y.few_d
  have hd2 := Y.few_d2
  have hmin := min_len (x0 :: r0)
  have hsl := slc_hi (t := 28) (m := ((x0 :: r0).take 40).length) (n := (x0 :: r0).length) (b := 2) (sa := some ⟨2, 0, none⟩) (c := e) u28 (by kernel_rfl) (.inr rfl) (by first | (simp at hke ⊢; omega) | (simp; omega)) he
  have happ := app_i (b := 2) (k := ((x0 :: r0).take 40).length) (e := e) (K0 := (x0 :: r0)) (by simp) (by first | (simp; done) | (simp; omega)) (by first | (simp; done) | (simp; omega))
  rw [take_self] at happ
  cases hc : checkS Y.few with
  | false =>
    have mr := reachE_m Y.few hd hd2 hK (e := oc1) (err_260 (K := ((x0 :: r0).take 40)) (q := q) hc) 7 8 (by omega)
    have mg := right_m Y.few hc 8
    exact memo_pure (hs := [(12, .call _), (15, .call _), (20, .val (.int .i64 (if (40 : Int) < (x0 :: r0).length then 40 else ((x0 :: r0).length : Nat))) (.int .i64 (((x0 :: r0).take 40).length : Nat))), (21, .slc 28 (.slice (some ⟨2, 0, none⟩) (x0 :: r0).length e) none (some (.int .i64 (((x0 :: r0).take 40).length : Nat))) none _), (22, .app _ _ _ _ _ _ _ _), (27, .call _), (31, .call _)]) (ch := []) 9 (evk 50) special ⟨wakes_m 4, mf, congrArg (Value.int .i64) hmin, hsl, happ, mr, mg, trivial⟩ trivial hV hS (by kernel_rfl)
  | true =>
    have key : ∀ p1 p2 b, decide (q < 0) = p1 → decide (q ≥ Y.few.N) = p2 → accK Y.few.ls.length (p1 || p2) ((x0 :: r0).take 40) = b → Memo.Ok Try.prog ⟨4, 3, [Y.v, .int .i64 q, .slice (some ⟨2, 0, none⟩) (x0 :: r0).length e], V4 Y (x0 :: r0), .bool true, [], 3⟩ := by
      intro p1 p2 b h1 h2 hb
      cases b with
      | true =>
        have mr := reachE_m Y.few hd hd2 hK (e := oc1) (err_2 (K := ((x0 :: r0).take 40)) (q := q) hc (by unfold nodeBad; rw [h1, h2]; exact hb)) 7 8 (by omega)
        have mg := right_m Y.few hc 8
        have hlo := b_loop_7_9 Y.few (ck := oc1) (q := q) (er := 2) hK ((x0 :: r0).take 40).length 0 (p1 || p2) (by omega)
        rw [List.drop_zero, hb] at hlo
        cases p1
        · cases p2 <;>
            exact memo_pure (hs := [(12, .call _), (15, .call _), (20, .val (.int .i64 (if (40 : Int) < (x0 :: r0).length then 40 else ((x0 :: r0).length : Nat))) (.int .i64 (((x0 :: r0).take 40).length : Nat))), (21, .slc 28 (.slice (some ⟨2, 0, none⟩) (x0 :: r0).length e) none (some (.int .i64 (((x0 :: r0).take 40).length : Nat))) none _), (22, .app _ _ _ _ _ _ _ _), (27, .call _), (31, .call _), (41, .val (.bool (decide (q < 0))) (.bool _)), (46, .val (.bool (decide (q ≥ Y.few.N))) (.bool _))]) (ch := [⟨9, none, .loop (lp Try.prog 4 9), T4 7 oc1 ((x0 :: r0).take 40) q (.slice none 0 0) 2 _ 0, [], H4 Y.few 7 ((x0 :: r0).take 40), 9, _, false⟩]) 10 (evk 50) special ⟨wakes_m 4, mf, congrArg (Value.int .i64) hmin, hsl, happ, mr, mg, congrArg Value.bool h1, congrArg Value.bool h2, trivial⟩ ⟨codeOk_loop hlo, trivial⟩ hV hS (by kernel_rfl)
        · exact memo_pure (hs := [(12, .call _), (15, .call _), (20, .val (.int .i64 (if (40 : Int) < (x0 :: r0).length then 40 else ((x0 :: r0).length : Nat))) (.int .i64 (((x0 :: r0).take 40).length : Nat))), (21, .slc 28 (.slice (some ⟨2, 0, none⟩) (x0 :: r0).length e) none (some (.int .i64 (((x0 :: r0).take 40).length : Nat))) none _), (22, .app _ _ _ _ _ _ _ _), (27, .call _), (31, .call _), (41, .val (.bool (decide (q < 0))) (.bool _))]) (ch := [⟨9, none, .loop (lp Try.prog 4 9), T4 7 oc1 ((x0 :: r0).take 40) q (.slice none 0 0) 2 true 0, [], H4 Y.few 7 ((x0 :: r0).take 40), 9, _, false⟩]) 10 (evk 50) special ⟨wakes_m 4, mf, congrArg (Value.int .i64) hmin, hsl, happ, mr, mg, congrArg Value.bool h1, trivial⟩ ⟨codeOk_loop hlo, trivial⟩ hV hS (by kernel_rfl)
      | false =>
        have hno := err_no (K := ((x0 :: r0).take 40)) (q := q) hc (by unfold nodeBad; rw [h1, h2]; exact hb)
        have mr := reachY_m Y.few hd hd2 hK (e := oc1) hno 7 8 (by omega)
        obtain ⟨q0, q1, _⟩ := reachY_0 Y.few hd hd2 hK (e := oc1) hno
        have mg := right_m Y.few hc 14
        have hlo := b_loop_7_15 Y.few (ck := oc1) (n := Y.few.S.length) (q := q) (er := 0) hK ((x0 :: r0).take 40).length 0 (p1 || p2) (by omega)
        rw [List.drop_zero, hb] at hlo
        have hc2 := hc
        unfold checkS lateS at hc2
        simp only [Bool.and_eq_true] at hc2
        obtain ⟨hN, hn2, hn12, h24⟩ := first_true hc2.1
        have hE : ∀ l ∈ Y.few.ls, Ends Y.few.S.length l := fun l hl => hN ▸ ends_of (sndGo_mem hc2.2.1.1 l hl)
        have hcut : (cutGo Y.few.ls.length ((x0 :: r0).take 40) cut0).1 = true := by
          rw [cutGo_any]
          rw [accK_eq, Bool.or_eq_false_iff] at hb
          rw [hb.2]; rfl
        obtain ⟨a, rfl⟩ : ∃ n : Nat, q = n := ⟨q.toNat, by omega⟩
        have m20 := reachR_m Y.few hK (e := oc1) (a := a) hN hE (by omega) 7 15 (by omega)
        have hl1 : (reachS (cutC Y.few ((x0 :: r0).take 40)) Y.few.ls Y.few.S.length a).length = Y.few.S.length := by unfold reachS; rw [rIter_len]; simp
        have hl2 : (reachR ((x0 :: r0).take 40) Y.few.ls Y.few.S.length a).length = Y.few.S.length := by unfold reachR; rw [rIterR_len]; simp
        have heq := reach_law Y.few h24 hcut Y.few.S.length a
        have meq := equal_m (p := true) (c := Y.few.S.length) (e := Y.few.S.length) (bc_av _) (bc_av _) (A := reachS (cutC Y.few ((x0 :: r0).take 40)) Y.few.ls Y.few.S.length a) (B := reachR ((x0 :: r0).take 40) Y.few.ls Y.few.S.length a) (fun _ _ h => bc_get h) (fun _ _ h => bc_get h) (by rw [hl1]; exact Y.few.hS) (by rw [heq]; exact beq_self_eq_true _) 13 16 17 (by omega)
        rw [hl1, hl2] at meq
        have n1 : decide ((a : Int) < 0) = false := decide_eq_false (by omega)
        have n2 : decide ((a : Int) ≥ Y.few.N) = false := decide_eq_false (by omega)
        rw [n1] at h1
        rw [n2] at h2
        subst h1
        subst h2
        exact memo_pure (hs := [(12, .call _), (15, .call _), (20, .val (.int .i64 (if (40 : Int) < (x0 :: r0).length then 40 else ((x0 :: r0).length : Nat))) (.int .i64 (((x0 :: r0).take 40).length : Nat))), (21, .slc 28 (.slice (some ⟨2, 0, none⟩) (x0 :: r0).length e) none (some (.int .i64 (((x0 :: r0).take 40).length : Nat))) none _), (22, .app _ _ _ _ _ _ _ _), (27, .call _), (31, .call _), (41, .val (.bool (decide ((a : Int) < 0))) (.bool false)), (46, .val (.bool (decide ((a : Int) ≥ Y.few.N))) (.bool false)), (82, .call _), (83, .call _)]) (ch := [⟨9, none, .loop (lp Try.prog 4 9), T4 7 oc1 ((x0 :: r0).take 40) a (.slice (some ⟨13, 0, none⟩) Y.few.S.length Y.few.S.length) 0 false 0, [], H4 Y.few 7 ((x0 :: r0).take 40), 15, _, false⟩]) 17 (evk 50) special ⟨wakes_m 4, mf, congrArg (Value.int .i64) hmin, hsl, happ, mr, mg, congrArg Value.bool n1, congrArg Value.bool n2, m20, meq, trivial⟩ ⟨codeOk_loop hlo, trivial⟩ hV hS (by kernel_rfl)
    exact key _ _ _ rfl rfl rfl
theorem reaches_0 (Y : Raw) (K0 : List Int) {sk : Option Addr} {e : Nat} {w : World} {v' : Value} {L : En.Loc} (h : SlAt w 2 K0.length e sk (ic K0) v' L) (q : Int) : Memo.Ok Try.prog ⟨4, 3, [Y.v, .int .i64 q, .slice sk K0.length e], V4 Y K0, .bool true, [], 3⟩ := by
  rcases h.val with ⟨rfl, _, h0, rfl⟩ | ⟨rfl, _⟩
  · have : K0 = [] := List.length_eq_zero_iff.1 h0
    subst this
    exact reaches_4n Y q
  · cases K0 with
    | nil => exact reaches_4s Y h.le h.lt q
    | cons x r => exact reaches_7s Y h.le h.lt q
theorem row_i {row : List Value} (h : LeafL [.i .i64] row) : ∃ a : Int, row = [Value.int .i64 a] := by
  obtain ⟨a, r1, rfl, _, h1⟩ := h.int
  have := h1.done
  subst this
  exact ⟨a, rfl⟩
theorem ic_cells : ∀ S : List Int, cellsOfL (fun x => [Value.int .i64 x]) S = ic S
  | [] => rfl
  | x :: S => by simp only [cellsOfL, ic_cells S]; rfl
set_option maxRecDepth 100000 in
theorem calls_r {T : Type} {enc : TypeId × Value → T} {w : World} {base : Nat} {spare : Nat → Bool} {held : Bool} {r : Reach} {b0 : Nat} {v u : Value} {d d2 : DataW T} {ps ps2 : List MemPlace} {q : Int} (h0 : CellsAt w 0) (hv : Value.okWide Try.prog w r b0 25 v) (hd : DataW.Trod enc Try.prog w base spare held 25 v d ps)
    (hv2 : Value.okWide Try.prog w r b0 28 u) (hd2 : DataW.Trod enc Try.prog w base spare held 28 u d2 ps2) :
    Calls Try.prog 4 [v, .int .i64 q, u].toArray w fun e w' => e = .returned (.bool true) ∧ Below w.heap.size w w' := by
  obtain ⟨N, S, ls, sa, c, sb, d', L1, L2, v1, v2, rfl, hS, hL⟩ := open_topo (w := w) (r := r) (b0 := b0) (v := v) (enc := enc) (base := base) (spare := spare) (held := held) (d := d) (ps := ps) hv hd h0 0
  have hv3 : Cell.okWide Try.prog w r b0 28 u := by simpa only [Value.okWide, u28] using hv2
  obtain ⟨fuel, hf⟩ := hd2
  have hcell : u.cells.toList = [u] := by
    cases u <;> first | rfl | (simp only [Cell.okWide, u28, Cell.ok] at hv3)
  rw [hcell] at hf
  obtain ⟨K0, sk, e, L3, hK⟩ := open_at (P := Try.prog) (f := fun x : Int => [Value.int .i64 x]) (n := 5) u28 hv3 hf (ls := [.i .i64]) (by kernel_rfl) (s := 1) (by kernel_rfl) (fun _ => rfl) (fun _ => row_i) h0 2
  rw [ic_cells] at hK
  let Y : Raw := ⟨N, sa, c, sb, d', S, ls, hS.sl, hL.sl, hS.le, hS.lt, hL.le, hL.lt⟩
  refine calls_open (φ := renL [L1, L2, L3]) (reaches_0 Y K0 hK q) (good_V fun b cs hb => ?_) ⟨?_, .int _ _, hK.rel rfl, trivial⟩
  · by_cases h0 : 0 = b
    · subst h0
      simp [V4, roHp, Hp.get] at hb
      subst hb
      exact ⟨L1, rfl, hS.brel (bc_av _)⟩
    · by_cases h1 : 1 = b
      · subst h1
        simp [V4, roHp, Hp.get] at hb
        subst hb
        exact ⟨L2, rfl, hL.brel (lcs_av _)⟩
      · by_cases h2 : 2 = b
        · subst h2
          simp [V4, roHp, Hp.get] at hb
          subst hb
          exact ⟨L3, rfl, hK.brel (ic_av _)⟩
        · simp [V4, roHp, Hp.get, h0, h1, h2] at hb
  · exact .agg' ⟨.int _ _, hS.rel rfl, hL.rel rfl, trivial⟩
end Go.Proofs.Ytkngbmaomgfcjaa.topo
namespace Go.Proofs.Ytkngbmaomgfcjaa.topoReaches
open Go Go.En Go.ChangeShapes Go.WideShapes Go.ChangeAt Go.RowKit
set_option linter.unusedVariables false
theorem own : ownKnob Try.prog.godebug = none := by kernel_rfl
set_option maxRecDepth 100000 in
theorem lifted (os : Os) (started : os.Started) (H : Type) (enc : TypeId × Value → H) :
    ReturnsInHanded {} Try.checked os 4 .any (Rows.topoReachesSpec.pre6 enc Try.prog Try.f4 Rows.topoReachesRow.domain false) (Rows.topoReachesSpec.post enc Try.prog Try.f4 false true false false) := by
  refine returnsInHanded_of_change_shaped (C := Try.checked) own started (by kernel_rfl) Try.func4
    (ChangeSpec.witness6 (enc := enc) (C := Try.checked) false ⟨#[], #[topo.tv 0 none 0 0 none 0 0, .int .i64 0, .slice none 0 0], []⟩ 8 (by kernel_rfl) (by kernel_rfl) (by kernel_rfl) (by kernel_rfl)) ?_
  intro W base args ds gs before hval0 hW hcnd _ hsh _
  have hval : ∀ (j : Nat) t v, Try.f4.params[j]? = some t → args[j]? = some v → Value.okWide Try.prog W .any base t v := hval0
  have hW2 := hW
  obtain ⟨p, q, hA0, hV, rfl, hfz, hnd⟩ := hW2
  have hA : DataW.TrodAll enc Try.prog W 0 (fun _ => true) true Try.f4.params.toList args.toList ds p := hA0
  rw [Try.params4] at hA hval
  obtain ⟨v0, v1, v2, d0, d1, d2, p0, p1, p2, rfl, rfl, rfl, h0, h1, h2⟩ := trodAll_three hA
  obtain ⟨x, rfl, _, _, _⟩ := open_int Try.underlying3 (hval 1 3 v1 rfl rfl) h1
  obtain ⟨rfl, rfl⟩ := trodVars_none hV
  have hwalk := topo.calls_r (q := x) (topo.first_block hsh) (hval 0 25 v0 rfl rfl) h0 (hval 2 28 v2 rfl rfl) h2
  refine hwalk.mono fun e W' ⟨he, hb⟩ => ?_
  subst he
  exact ⟨_, rfl, law_post rfl (by kernel_rfl) (by kernel_rfl) rfl Try.underlying4 hW rfl rfl rfl hb⟩
theorem over : Rows.topoReachesRow.holds Try.pinned (OpenSpec.ofChange Rows.topoReachesSpec) :=
  OpenClaim.holds_of_wide 4 Try.f4 rfl rfl rfl rfl rfl rfl rfl ⟨rfl, rfl, rfl, rfl, rfl⟩ rfl rfl rfl rfl rfl (by kernel_rfl) Try.func4 (by kernel_rfl)
    (of_decide_eq_true (by kernel_rfl)) (by unfold Func.isWrapper; first | (rw [if_pos (by decide +kernel)]; kernel_rfl) | (rw [if_neg (by decide +kernel)]; exact ⟨rfl, rfl⟩))
    (fun os started H enc _ => lifted os started H enc)
theorem proved : Rows.TopoReachesSaid := over
#print axioms proved
end Go.Proofs.Ytkngbmaomgfcjaa.topoReaches
