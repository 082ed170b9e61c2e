/- TopoReaches returns true for every topology, node and cut, and its arguments read as before. No condition. -/
import Derived.Test.YtkngbmaomgfcjaaTpO
import Derived.Test.YtkngbmaomgfcjaaTpM
import Derived.WalkKit
import Derived.ProofKit
namespace Go.Proofs.Ytkngbmaomgfcjaa.topo
open Go Go.En Go.ChangeShapes Go.WideShapes Go.RowKit
set_option linter.unusedVariables false

theorem getD_set {C : List Bool} {x j : Nat} (hx : x < C.length) : (C.set x true).getD j false = (C.getD j false || decide (x = j)) := by
  rw [List.getD_eq_getElem?_getD, List.getD_eq_getElem?_getD, List.getElem?_set]
  by_cases h : x = j
  · subst h; simp [hx]
  · simp [h]
theorem cutGo_get {m : Nat} (hm : m ≤ 24) : ∀ {K : List Int} {C : List Bool}, C.length = 24 → (cutGo m K C).1 = true → ∀ j : Nat, (cutGo m K C).2.getD j false = (C.getD j false || inS K j)
  | [], C, _, _, j => by simp [cutGo, inS]
  | x :: r, C, hC, h, j => by
    simp only [cutGo] at h ⊢
    cases hb : badK m x with
    | true => rw [hb] at h; cases h
    | false =>
      rw [hb] at h
      simp only [cond_false] at h ⊢
      have hb2 := hb
      simp only [badK, Bool.or_eq_false_iff, decide_eq_false_iff_not] at hb2
      rw [cutGo_get hm (by simpa using hC) h j, getD_set (by omega)]
      have : decide (x.toNat = j) = (x == (j : Int)) := by
        rw [Bool.eq_iff_iff]
        simp only [decide_eq_true_eq, beq_iff_eq]
        omega
      rw [this]
      simp only [inS, List.any_cons, Bool.or_assoc]
theorem cutGo_any {m : Nat} : ∀ (K : List Int) (C : List Bool), (cutGo m K C).1 = !(K.any (badK m))
  | [], _ => rfl
  | x :: r, C => by
    simp only [cutGo, List.any_cons]
    cases badK m x with
    | true => rfl
    | false => simpa using cutGo_any r _
theorem reach_law (X : Cx) {K : List Int} (h24 : X.ls.length ≤ 24) (h : (cutGo X.ls.length K cut0).1 = true) (n a : Nat) : reachS (cutC X K) X.ls n a = reachR K X.ls n a := by
  refine reach_eq (fun j hj => ?_) n a
  unfold cutC
  rw [cutGo_get h24 (by simp [cut0]) h j]
  have : cut0.getD j false = false := by
    simp only [cut0, List.getD_eq_getElem?_getD, List.getElem?_replicate]
    split <;> rfl
  rw [this]; rfl
/-- A contract about a topology and a cut, at other names. -/
def ρc (c : Nat) : Nat → Nat
  | 2 => c
  | b => b
def V20b (X : Cx) (K : List Int) (c : Nat) : List (Nat × List Value) := [(0, X.st), (1, X.lk), (c, ic K)]
theorem Cx.at20 {X : Cx} {K : List Int} {f : FuncId} {q : Int} {e : Nat} {v v' : Value} {new new' : List (Nat × List Value)} {n' nx' : Nat} (h : Memo.Ok Try.prog ⟨f, 3, [X.v, .int .i64 q, cutv 2 K.length e], V20 X K, v, new, n'⟩) (c nx : Nat) (hc : c ≠ 0 ∧ c ≠ 1) (hv : (En.small n' 5 v && inNew 3 n' new) = true) (hns : En.smallH n' new = true)
    (h2 : renV (shift (ρc c) 3 nx) 5 v = v') (h3 : renH (shift (ρc c) 3 nx) new = new') (h4 : nx + (n' - 3) = nx') : Memo.Ok Try.prog ⟨f, nx, [X.v, .int .i64 q, cutv c K.length e], V20b X K c, v', new', nx'⟩ := by
  simp only [Bool.and_eq_true] at hv
  have hr : renV (shift (ρc c) 3 nx) 5 X.v = X.v := by
    show Value.agg ([_, _, _] : List Value).toArray = _
    have h0 : shift (ρc c) 3 nx 0 = 0 := rfl
    have h1 : shift (ρc c) 3 nx 1 = 1 := rfl
    rw [sl_ren X.hsa h0, sl_ren X.hsb h1]
    rfl
  have hb : below 3 (V20 X K) = true := by kernel_rfl
  have := memo_ren h (ρc c) nx (V20b X K c) (by simp only [En.smallL, X.small (by omega : 2 ≤ 3), hb, hv.1, hv.2, Bool.true_and, Bool.and_true]; rfl) (V20_smallH X K 3) hns (fun b cs hb => by
    by_cases h0 : 0 = b
    · subst h0
      simp [V20, V20b, roHp, Hp.get, ρc] at hb ⊢
      subst hb
      exact (renV_avL X.avs).symm
    · by_cases h1 : 1 = b
      · subst h1
        simp [V20, V20b, roHp, Hp.get, ρc] at hb ⊢
        subst hb
        exact (renV_avL X.avk).symm
      · by_cases h2 : 2 = b
        · subst h2
          simp [V20, V20b, roHp, Hp.get, ρc, Ne.symm hc.1, Ne.symm hc.2] at hb ⊢
          subst hb
          exact (renV_avL (ic_av K)).symm
        · simp [V20, roHp, Hp.get, h0, h1, h2] at hb)
  simp only [List.map_cons, List.map_nil, hr, h2, h3, h4] at this
  exact this
theorem ren_bc (ρ : Nat → Nat) (k : Nat) (R : List Bool) : renH ρ [(k, bc R)] = [(ρ k, bc R)] := by simp [renH, renV_avL (bc_av R)]
theorem reachE_m (X : Cx) (hd : X.ls.length ≤ X.d) (hd2 : X.d < openCap) {K : List Int} (hK : K.length ≤ 1000) {e : Nat} {q x : Int} (h : rErr X K q = some x) (c nx : Nat) (hc : c ≠ 0 ∧ c ≠ 1) :
    Memo.Ok Try.prog ⟨18, nx, [X.v, .int .i64 q, cutv c K.length e], V20b X K c, .tuple #[.slice none 0 0, .int .i64 x], [], nx⟩ :=
  Cx.at20 (reachE_0 X hd hd2 hK h) c nx hc (by kernel_rfl) rfl rfl rfl rfl
theorem reachY_m (X : Cx) (hd : X.ls.length ≤ X.d) (hd2 : X.d < openCap) {K : List Int} (hK : K.length ≤ 1000) {e : Nat} {q : Int} (h : rErr X K q = none) (c nx : Nat) (hc : c ≠ 0 ∧ c ≠ 1) :
    Memo.Ok Try.prog ⟨18, nx, [X.v, .int .i64 q, cutv c K.length e], V20b X K c, .tuple #[.slice (some ⟨nx + 5, 0, none⟩) X.S.length X.S.length, .int .i64 0], [(nx + 5, bc (reachS (cutC X K) X.ls X.S.length q.toNat))], nx + 6⟩ :=
  Cx.at20 (reachY_0 X hd hd2 hK h).2.2 c nx hc (by kernel_rfl) (by simp [En.smallH, small_avL (bc_av _)]) rfl (ren_bc _ _ _) rfl
theorem reachR_m (X : Cx) {K : List Int} (hK : K.length ≤ 1000) {e a : Nat} (hN : X.N = X.S.length) (he : ∀ l ∈ X.ls, Ends X.S.length l) (ha : a < X.S.length) (c nx : Nat) (hc : c ≠ 0 ∧ c ≠ 1) :
    Memo.Ok Try.prog ⟨20, nx, [X.v, .int .i64 a, cutv c K.length e], V20b X K c, .slice (some ⟨nx + 1, 0, none⟩) X.S.length X.S.length, [(nx + 1, bc (reachR K X.ls X.S.length a))], nx + 2⟩ :=
  Cx.at20 (reachR_0 X hK (.inr rfl) hN he ha) c nx hc (by kernel_rfl) (by simp [En.smallH, small_avL (bc_av _)]) rfl (ren_bc _ _ _) rfl
/-- The cells of a slice of ints. -/
theorem src_i {H : Hp} {b k e : Nat} {K0 : List Int} {ro : Bool} (hb : H.get b = some (.cells (ic K0) ro)) (hk : k ≤ K0.length) : srcCells H 1 (.slice (some ⟨b, 0, none⟩) k e) = some (k, ic (K0.take k)) := by
  by_cases h0 : k = 0
  · subst h0; rfl
  · have hl : 0 + k * 1 ≤ (ic K0).length := by simp [ic]; omega
    simp only [srcCells, h0, if_false, hb, hl, if_true]
    simp [ic]
theorem i3 : ∃ inf z, Try.prog.info? 3 = some inf ∧ inf.size = 1 ∧ inf.bytes = 8 ∧ inf.zero = some z ∧ z.cells.size = 1 := by
  have hi : (Try.prog.info? 3).map (fun i => (i.size, i.bytes, i.zero.map (·.cells.size))) = some (1, 8, some 1) := by kernel_rfl
  cases he : Try.prog.info? 3 with
  | none => rw [he] at hi; cases hi
  | some inf =>
    rw [he] at hi
    simp only [Option.map_some, Option.some.injEq, Prod.mk.injEq] at hi
    obtain ⟨h1, h2, h3⟩ := hi
    cases hz : inf.zero with
    | none => rw [hz] at h3; cases h3
    | some z => rw [hz] at h3; exact ⟨inf, z, rfl, h1, h2, hz, by simpa using h3⟩
def oc1 : Nat := openCap + 1
theorem app_i {b k e : Nat} {K0 : List Int} (h0 : 0 < k) (hk : k ≤ K0.length) (h1000 : k ≤ 1000) :
    Hint.Ok Try.prog (.app [28, 28] 28 [.slice (some ⟨4, 0, none⟩) 0 0, .slice (some ⟨b, 0, none⟩) k e] [(4, []), (b, ic K0)] none k oc1 (ic (K0.take k))) := by
  intro H nx hV _
  obtain ⟨inf, z, h1, h2, h3, h4, h5⟩ := i3
  obtain ⟨r2, g2⟩ := hV b (ic K0) (by simp)
  have e2 := src_i (e := e) g2 hk
  have hne : ¬ (k = 0) := by omega
  have hnc : ¬ (openCap ≤ 0) := by simp [openCap]
  have hml : k ≤ maxLen := by unfold maxLen; omega
  have hby : k * 8 ≤ 140737488355328 := by omega
  have e1 : srcCells H 1 (.slice (some ⟨4, 0, none⟩) 0 0) = some (0, []) := rfl
  simp only [doBuiltin, if_true, doAppend, u28, h1, h2, h3, h4, e2, h5, e1, hne, h0, hml, hby, hnc, if_false, and_self, false_imp_iff, Nat.zero_lt_one, delO, oc1, List.nil_append, Nat.zero_add]
def T4 (cb ck : Nat) (K : List Int) (q : Int) (rv : Value) (er : Int) (b : Bool) (j : Int) : List Value := [J, .int .i64 q, cutv cb K.length ck, pt 3, J, J, .bool false, rv, .int .i64 er, .bool b] ++ List.replicate 38 J ++ [cutv cb K.length ck, .int .i64 K.length, .int .i64 j] ++ List.replicate 34 J
def TO4 (cb ck : Nat) (K : List Int) (q : Int) (rv : Value) (er : Int) (b : Bool) : List Value := [J, .int .i64 q, cutv cb K.length ck, pt 3, J, J, .bool false, rv, .int .i64 er, .bool b] ++ List.replicate 75 J
def H4 (X : Cx) (cb : Nat) (K : List Int) : Hp := [(3, .cells X.cells false), (cb, .cells (ic K) false)]
def accK (m : Nat) (b : Bool) : List Int → Bool
  | [] => b
  | x :: r => accK m (b || badK m x) r
theorem accK_eq (m : Nat) : ∀ (K : List Int) (b : Bool), accK m b K = (b || K.any (badK m))
  | [], b => by simp [accK]
  | x :: r, b => by rw [accK, accK_eq m r, List.any_cons, Bool.or_assoc]

theorem H4_below_4_9 (X : Cx) (K : List Int) : hpBelow 9 (H4 X 4 K) = true := by
  have a1 : tidyB 9 (.cells X.cells false) = true := X.smallL (by omega) 5
  have a2 : tidyB 9 (.cells (ic K) false) = true := small_avL (ic_av K)
  simp [H4, hpBelow, a1, a2]
theorem b_go_4_9 (X : Cx) {K : List Int} {ck j : Nat} {q er : Int} {b : Bool} (hj : j < K.length) :
    CodeOk Try.prog none (lp Try.prog 4 9) (T4 4 ck K q (.slice none 0 0) er b j) [] (H4 X 4 K) 9 ⟨.normal, T4 4 ck K q (.slice none 0 0) er (b || badK X.ls.length (K.getD j 0)) (IntKind.i64.wrap (j + 1)), [], H4 X 4 K, 9⟩ := by
  have i1 : doIndexAddr Try.prog 28 (cutv 4 K.length ck) (.int .i64 j) = _ := ix_i hj
  have l1 := ld_i (b := 4) (ro := false) hj
  unfold badK
  generalize K.getD j 0 = x at l1
  have key : ∀ p1 p2, decide (x < 0) = p1 → decide (x ≥ X.ls.length) = p2 → CodeOk Try.prog none (lp Try.prog 4 9) (T4 4 ck K q (.slice none 0 0) er b j) [] (H4 X 4 K) 9 ⟨.normal, T4 4 ck K q (.slice none 0 0) er (b || (p1 || p2)) (IntKind.i64.wrap (j + 1)), [], H4 X 4 K, 9⟩ := by
    intro p1 p2 h1 h2
    cases b <;> cases p1 <;> cases p2 <;>
      exact code_at (hs := [(51, .val (.bool (decide ((j : Int) < K.length))) (.bool true)), (52, .ix 28 (cutv 4 K.length ck) (.int .i64 j) _), (53, .ld 3 _ 4 (ic K) false _), (57, .val (.bool (decide (x < 0))) (.bool _)), (64, .val (.bool (decide (x ≥ X.ls.length))) (.bool _))]) (ch := []) (evk 50) special ⟨congrArg Value.bool (decide_eq_true (by omega)), i1, ⟨l1, _, rfl⟩, congrArg Value.bool h1, congrArg Value.bool h2, trivial⟩ trivial (by kernel_rfl) (H4_below_4_9 X K) (H4_below_4_9 X K) (by kernel_rfl)
  exact key _ _ rfl rfl
theorem b_loop_4_9 (X : Cx) {K : List Int} (hK : K.length ≤ 1000) {ck : Nat} {q er : Int} : ∀ (k j : Nat) (b : Bool), j + k = K.length → LoopOk Try.prog none (lp Try.prog 4 9) (T4 4 ck K q (.slice none 0 0) er b j) [] (H4 X 4 K) 9 ⟨.exit 0, TO4 4 ck K q (.slice none 0 0) er (accK X.ls.length b (K.drop j)), [], H4 X 4 K, 9⟩
  | 0, j, b, h => by
    have : j = K.length := by omega
    subst this
    rw [List.drop_length]
    exact loopOk_out (code_at (R := ⟨.exit 0, TO4 4 ck K q (.slice none 0 0) er b, [], H4 X 4 K, 9⟩) (hs := [(51, .val (.bool (decide ((K.length : Int) < K.length))) (.bool false))]) (ch := []) (evk 50) special ⟨congrArg Value.bool (decide_eq_false (by omega)), trivial⟩ trivial (by kernel_rfl) (H4_below_4_9 X K) (H4_below_4_9 X K) (by kernel_rfl)) (by show Exit.exit 0 ≠ Exit.normal; simp)
  | k + 1, j, b, h => by
    have hlt : j < K.length := by omega
    have hg : K.getD j 0 = K[j] := by simp [List.getD_eq_getElem?_getD, hlt]
    have h1 := b_go_4_9 X (ck := ck) (q := q) (er := er) (b := b) hlt
    rw [hg, show (j : Int) + 1 = ((j + 1 : Nat) : Int) by push_cast; rfl, wrap_nat (by omega)] at h1
    rw [List.drop_eq_getElem_cons hlt]
    exact loop_step h1 (b_loop_4_9 X hK k (j + 1) _ (by omega))
termination_by k => k
theorem H4_below_4_15 (X : Cx) (K : List Int) : hpBelow 15 (H4 X 4 K) = true := by
  have a1 : tidyB 15 (.cells X.cells false) = true := X.smallL (by omega) 5
  have a2 : tidyB 15 (.cells (ic K) false) = true := small_avL (ic_av K)
  simp [H4, hpBelow, a1, a2]
theorem b_go_4_15 (X : Cx) {K : List Int} {ck j : Nat} {n : Nat} {q er : Int} {b : Bool} (hj : j < K.length) :
    CodeOk Try.prog none (lp Try.prog 4 9) (T4 4 ck K q (.slice (some ⟨13, 0, none⟩) n n) er b j) [] (H4 X 4 K) 15 ⟨.normal, T4 4 ck K q (.slice (some ⟨13, 0, none⟩) n n) er (b || badK X.ls.length (K.getD j 0)) (IntKind.i64.wrap (j + 1)), [], H4 X 4 K, 15⟩ := by
  have i1 : doIndexAddr Try.prog 28 (cutv 4 K.length ck) (.int .i64 j) = _ := ix_i hj
  have l1 := ld_i (b := 4) (ro := false) hj
  unfold badK
  generalize K.getD j 0 = x at l1
  have key : ∀ p1 p2, decide (x < 0) = p1 → decide (x ≥ X.ls.length) = p2 → CodeOk Try.prog none (lp Try.prog 4 9) (T4 4 ck K q (.slice (some ⟨13, 0, none⟩) n n) er b j) [] (H4 X 4 K) 15 ⟨.normal, T4 4 ck K q (.slice (some ⟨13, 0, none⟩) n n) er (b || (p1 || p2)) (IntKind.i64.wrap (j + 1)), [], H4 X 4 K, 15⟩ := by
    intro p1 p2 h1 h2
    cases b <;> cases p1 <;> cases p2 <;>
      exact code_at (hs := [(51, .val (.bool (decide ((j : Int) < K.length))) (.bool true)), (52, .ix 28 (cutv 4 K.length ck) (.int .i64 j) _), (53, .ld 3 _ 4 (ic K) false _), (57, .val (.bool (decide (x < 0))) (.bool _)), (64, .val (.bool (decide (x ≥ X.ls.length))) (.bool _))]) (ch := []) (evk 50) special ⟨congrArg Value.bool (decide_eq_true (by omega)), i1, ⟨l1, _, rfl⟩, congrArg Value.bool h1, congrArg Value.bool h2, trivial⟩ trivial (by kernel_rfl) (H4_below_4_15 X K) (H4_below_4_15 X K) (by kernel_rfl)
  exact key _ _ rfl rfl
theorem b_loop_4_15 (X : Cx) {K : List Int} (hK : K.length ≤ 1000) {ck : Nat} {n : Nat} {q er : Int} : ∀ (k j : Nat) (b : Bool), j + k = K.length → LoopOk Try.prog none (lp Try.prog 4 9) (T4 4 ck K q (.slice (some ⟨13, 0, none⟩) n n) er b j) [] (H4 X 4 K) 15 ⟨.exit 0, TO4 4 ck K q (.slice (some ⟨13, 0, none⟩) n n) er (accK X.ls.length b (K.drop j)), [], H4 X 4 K, 15⟩
  | 0, j, b, h => by
    have : j = K.length := by omega
    subst this
    rw [List.drop_length]
    exact loopOk_out (code_at (R := ⟨.exit 0, TO4 4 ck K q (.slice (some ⟨13, 0, none⟩) n n) er b, [], H4 X 4 K, 15⟩) (hs := [(51, .val (.bool (decide ((K.length : Int) < K.length))) (.bool false))]) (ch := []) (evk 50) special ⟨congrArg Value.bool (decide_eq_false (by omega)), trivial⟩ trivial (by kernel_rfl) (H4_below_4_15 X K) (H4_below_4_15 X K) (by kernel_rfl)) (by show Exit.exit 0 ≠ Exit.normal; simp)
  | k + 1, j, b, h => by
    have hlt : j < K.length := by omega
    have hg : K.getD j 0 = K[j] := by simp [List.getD_eq_getElem?_getD, hlt]
    have h1 := b_go_4_15 X (ck := ck) (n := n) (q := q) (er := er) (b := b) hlt
    rw [hg, show (j : Int) + 1 = ((j + 1 : Nat) : Int) by push_cast; rfl, wrap_nat (by omega)] at h1
    rw [List.drop_eq_getElem_cons hlt]
    exact loop_step h1 (b_loop_4_15 X hK k (j + 1) _ (by omega))
termination_by k => k
theorem H4_below_7_9 (X : Cx) (K : List Int) : hpBelow 9 (H4 X 7 K) = true := by
  have a1 : tidyB 9 (.cells X.cells false) = true := X.smallL (by omega) 5
  have a2 : tidyB 9 (.cells (ic K) false) = true := small_avL (ic_av K)
  simp [H4, hpBelow, a1, a2]
theorem b_go_7_9 (X : Cx) {K : List Int} {ck j : Nat} {q er : Int} {b : Bool} (hj : j < K.length) :
    CodeOk Try.prog none (lp Try.prog 4 9) (T4 7 ck K q (.slice none 0 0) er b j) [] (H4 X 7 K) 9 ⟨.normal, T4 7 ck K q (.slice none 0 0) er (b || badK X.ls.length (K.getD j 0)) (IntKind.i64.wrap (j + 1)), [], H4 X 7 K, 9⟩ := by
  have i1 : doIndexAddr Try.prog 28 (cutv 7 K.length ck) (.int .i64 j) = _ := ix_i hj
  have l1 := ld_i (b := 7) (ro := false) hj
  unfold badK
  generalize K.getD j 0 = x at l1
  have key : ∀ p1 p2, decide (x < 0) = p1 → decide (x ≥ X.ls.length) = p2 → CodeOk Try.prog none (lp Try.prog 4 9) (T4 7 ck K q (.slice none 0 0) er b j) [] (H4 X 7 K) 9 ⟨.normal, T4 7 ck K q (.slice none 0 0) er (b || (p1 || p2)) (IntKind.i64.wrap (j + 1)), [], H4 X 7 K, 9⟩ := by
    intro p1 p2 h1 h2
    cases b <;> cases p1 <;> cases p2 <;>
      exact code_at (hs := [(51, .val (.bool (decide ((j : Int) < K.length))) (.bool true)), (52, .ix 28 (cutv 7 K.length ck) (.int .i64 j) _), (53, .ld 3 _ 7 (ic K) false _), (57, .val (.bool (decide (x < 0))) (.bool _)), (64, .val (.bool (decide (x ≥ X.ls.length))) (.bool _))]) (ch := []) (evk 50) special ⟨congrArg Value.bool (decide_eq_true (by omega)), i1, ⟨l1, _, rfl⟩, congrArg Value.bool h1, congrArg Value.bool h2, trivial⟩ trivial (by kernel_rfl) (H4_below_7_9 X K) (H4_below_7_9 X K) (by kernel_rfl)
  exact key _ _ rfl rfl
theorem b_loop_7_9 (X : Cx) {K : List Int} (hK : K.length ≤ 1000) {ck : Nat} {q er : Int} : ∀ (k j : Nat) (b : Bool), j + k = K.length → LoopOk Try.prog none (lp Try.prog 4 9) (T4 7 ck K q (.slice none 0 0) er b j) [] (H4 X 7 K) 9 ⟨.exit 0, TO4 7 ck K q (.slice none 0 0) er (accK X.ls.length b (K.drop j)), [], H4 X 7 K, 9⟩
  | 0, j, b, h => by
    have : j = K.length := by omega
    subst this
    rw [List.drop_length]
    exact loopOk_out (code_at (R := ⟨.exit 0, TO4 7 ck K q (.slice none 0 0) er b, [], H4 X 7 K, 9⟩) (hs := [(51, .val (.bool (decide ((K.length : Int) < K.length))) (.bool false))]) (ch := []) (evk 50) special ⟨congrArg Value.bool (decide_eq_false (by omega)), trivial⟩ trivial (by kernel_rfl) (H4_below_7_9 X K) (H4_below_7_9 X K) (by kernel_rfl)) (by show Exit.exit 0 ≠ Exit.normal; simp)
  | k + 1, j, b, h => by
    have hlt : j < K.length := by omega
    have hg : K.getD j 0 = K[j] := by simp [List.getD_eq_getElem?_getD, hlt]
    have h1 := b_go_7_9 X (ck := ck) (q := q) (er := er) (b := b) hlt
    rw [hg, show (j : Int) + 1 = ((j + 1 : Nat) : Int) by push_cast; rfl, wrap_nat (by omega)] at h1
    rw [List.drop_eq_getElem_cons hlt]
    exact loop_step h1 (b_loop_7_9 X hK k (j + 1) _ (by omega))
termination_by k => k
theorem H4_below_7_15 (X : Cx) (K : List Int) : hpBelow 15 (H4 X 7 K) = true := by
  have a1 : tidyB 15 (.cells X.cells false) = true := X.smallL (by omega) 5
  have a2 : tidyB 15 (.cells (ic K) false) = true := small_avL (ic_av K)
  simp [H4, hpBelow, a1, a2]
theorem b_go_7_15 (X : Cx) {K : List Int} {ck j : Nat} {n : Nat} {q er : Int} {b : Bool} (hj : j < K.length) :
    CodeOk Try.prog none (lp Try.prog 4 9) (T4 7 ck K q (.slice (some ⟨13, 0, none⟩) n n) er b j) [] (H4 X 7 K) 15 ⟨.normal, T4 7 ck K q (.slice (some ⟨13, 0, none⟩) n n) er (b || badK X.ls.length (K.getD j 0)) (IntKind.i64.wrap (j + 1)), [], H4 X 7 K, 15⟩ := by
  have i1 : doIndexAddr Try.prog 28 (cutv 7 K.length ck) (.int .i64 j) = _ := ix_i hj
  have l1 := ld_i (b := 7) (ro := false) hj
  unfold badK
  generalize K.getD j 0 = x at l1
  have key : ∀ p1 p2, decide (x < 0) = p1 → decide (x ≥ X.ls.length) = p2 → CodeOk Try.prog none (lp Try.prog 4 9) (T4 7 ck K q (.slice (some ⟨13, 0, none⟩) n n) er b j) [] (H4 X 7 K) 15 ⟨.normal, T4 7 ck K q (.slice (some ⟨13, 0, none⟩) n n) er (b || (p1 || p2)) (IntKind.i64.wrap (j + 1)), [], H4 X 7 K, 15⟩ := by
    intro p1 p2 h1 h2
    cases b <;> cases p1 <;> cases p2 <;>
      exact code_at (hs := [(51, .val (.bool (decide ((j : Int) < K.length))) (.bool true)), (52, .ix 28 (cutv 7 K.length ck) (.int .i64 j) _), (53, .ld 3 _ 7 (ic K) false _), (57, .val (.bool (decide (x < 0))) (.bool _)), (64, .val (.bool (decide (x ≥ X.ls.length))) (.bool _))]) (ch := []) (evk 50) special ⟨congrArg Value.bool (decide_eq_true (by omega)), i1, ⟨l1, _, rfl⟩, congrArg Value.bool h1, congrArg Value.bool h2, trivial⟩ trivial (by kernel_rfl) (H4_below_7_15 X K) (H4_below_7_15 X K) (by kernel_rfl)
  exact key _ _ rfl rfl
theorem b_loop_7_15 (X : Cx) {K : List Int} (hK : K.length ≤ 1000) {ck : Nat} {n : Nat} {q er : Int} : ∀ (k j : Nat) (b : Bool), j + k = K.length → LoopOk Try.prog none (lp Try.prog 4 9) (T4 7 ck K q (.slice (some ⟨13, 0, none⟩) n n) er b j) [] (H4 X 7 K) 15 ⟨.exit 0, TO4 7 ck K q (.slice (some ⟨13, 0, none⟩) n n) er (accK X.ls.length b (K.drop j)), [], H4 X 7 K, 15⟩
  | 0, j, b, h => by
    have : j = K.length := by omega
    subst this
    rw [List.drop_length]
    exact loopOk_out (code_at (R := ⟨.exit 0, TO4 7 ck K q (.slice (some ⟨13, 0, none⟩) n n) er b, [], H4 X 7 K, 15⟩) (hs := [(51, .val (.bool (decide ((K.length : Int) < K.length))) (.bool false))]) (ch := []) (evk 50) special ⟨congrArg Value.bool (decide_eq_false (by omega)), trivial⟩ trivial (by kernel_rfl) (H4_below_7_15 X K) (H4_below_7_15 X K) (by kernel_rfl)) (by show Exit.exit 0 ≠ Exit.normal; simp)
  | k + 1, j, b, h => by
    have hlt : j < K.length := by omega
    have hg : K.getD j 0 = K[j] := by simp [List.getD_eq_getElem?_getD, hlt]
    have h1 := b_go_7_15 X (ck := ck) (n := n) (q := q) (er := er) (b := b) hlt
    rw [hg, show (j : Int) + 1 = ((j + 1 : Nat) : Int) by push_cast; rfl, wrap_nat (by omega)] at h1
    rw [List.drop_eq_getElem_cons hlt]
    exact loop_step h1 (b_loop_7_15 X hK k (j + 1) _ (by omega))
termination_by k => k
end Go.Proofs.Ytkngbmaomgfcjaa.topo
