/- Contract: Check. -/
import Derived.Test.YtkngbmaomgfcjaaTpF
namespace Go.Proofs.Ytkngbmaomgfcjaa.topo
open Go Go.En
set_option linter.unusedVariables false

def T38 (X : Cx) (i : Int) : List Value := [J, pt 2, .int .i64 0, .slice (some ⟨5, 0, none⟩) X.S.length X.S.length] ++ List.replicate 55 J ++ [.slice X.sa X.S.length X.c, .int .i64 X.S.length, .int .i64 i] ++ List.replicate 24 J
def TR38 (X : Cx) (e : Int) : List Value := [J, pt 2, .int .i64 e, J] ++ List.replicate 82 J
theorem pre38 (X : Cx) (D : List Int) (i : Int) : (nodupN (H37 X D) && tmBelow 8 (T38 X i) && dsBelow 8 [] && rBelow 8 none) = true := by
  rcases X.hsa with ⟨h, _⟩ | h
  · simp only [T38, h]
    show _ = true
    kernel_rfl
  · simp only [T38, h]
    show _ = true
    kernel_rfl
def badSt (s : Bool) (d : Int) : Bool := s && (decide (d < 1) || decide (d > 2))
def Q38 (X : Cx) (D : List Int) (j : Int) : Bool → Res
  | true => ⟨.ret, TR38 X 260, [], H37 X D, 8⟩
  | false => ⟨.normal, T38 X j, [], H37 X D, 8⟩
theorem s_go (X : Cx) {D : List Int} {i : Nat} {s : Bool} (hD : D.length = X.S.length) (hi : X.S[i]? = some s) :
    CodeOk Try.prog none (lp Try.prog 37 13) (T38 X i) [] (H37 X D) 8 (Q38 X D (IntKind.i64.wrap (i + 1)) (badSt s (D.getD i 0))) := by
  have hlt := lt_of hi
  have hix : doIndexAddr Try.prog 28 (.slice (some ⟨5, 0, none⟩) X.S.length X.S.length) (.int .i64 i) = _ := ix_i hlt
  have ld := ld_i (b := 5) (ro := false) (D := D) (i := i) (by omega)
  have l0 := X.ldS hi
  unfold badSt
  have key : ∀ p1 p2, decide (D.getD i 0 < 1) = p1 → decide (D.getD i 0 > 2) = p2 → CodeOk Try.prog none (lp Try.prog 37 13) (T38 X i) [] (H37 X D) 8 (Q38 X D (IntKind.i64.wrap (i + 1)) (s && (p1 || p2))) := by
    intro p1 p2 h1 h2
    have hsa := X.hsa
    rcases hsa with ⟨hsa, _⟩ | hsa <;> cases s <;> cases p1 <;> cases p2 <;>
      (refine code_at (hs := [(62, .val (.bool (decide ((i : Int) < X.S.length))) (.bool true)), (64, .ix 22 (.slice X.sa X.S.length X.c) (.int .i64 i) _), (65, .ld 4 _ 0 X.st true _), (70, .ix 28 (.slice (some ⟨5, 0, none⟩) X.S.length X.S.length) (.int .i64 i) _), (71, .ld 3 _ 5 (ic D) false _), (72, .val (.bool (decide (D.getD i 0 < 1))) (.bool _)), (76, .ix 28 (.slice (some ⟨5, 0, none⟩) X.S.length X.S.length) (.int .i64 i) _), (77, .ld 3 _ 5 (ic D) false _), (78, .val (.bool (decide (D.getD i 0 > 2))) (.bool _))]) (ch := []) (evk 50) special
          ⟨congrArg Value.bool (decide_eq_true (by omega)), X.ixS hlt, ⟨l0, _, rfl⟩, hix, ⟨ld, _, rfl⟩, congrArg Value.bool h1, hix, ⟨ld, _, rfl⟩, congrArg Value.bool h2, trivial⟩ trivial (pre38 X D i) (H37_below X D (by omega)) (H37_below X D (by omega)) ?_
       simp only [Q38, T38, hsa, Bool.true_and, Bool.false_and, Bool.or_true, Bool.or_false]; kernel_rfl)
  exact key _ _ rfl rfl
theorem s_out (X : Cx) (D : List Int) : CodeOk Try.prog none (lp Try.prog 37 13) (T38 X X.S.length) [] (H37 X D) 8 ⟨.exit 2, TR38 X 0, [], H37 X D, 8⟩ := by
  have hsa := X.hsa
  rcases hsa with ⟨hsa, _⟩ | hsa <;>
    (refine code_at (hs := [(62, .val (.bool (decide ((X.S.length : Int) < X.S.length))) (.bool false))]) (ch := []) (evk 50) special ⟨congrArg Value.bool (decide_eq_false (by omega)), trivial⟩ trivial (pre38 X D _) (H37_below X D (by omega)) (H37_below X D (by omega)) ?_
     simp only [T38, hsa]; kernel_rfl)
def stBad (D : List Int) : List Bool → Nat → Bool
  | [], _ => false
  | s :: r, i => badSt s (D.getD i 0) || stBad D r (i + 1)
def F38 (X : Cx) (D : List Int) : Bool → Res
  | true => ⟨.ret, TR38 X 260, [], H37 X D, 8⟩
  | false => ⟨.exit 2, TR38 X 0, [], H37 X D, 8⟩
theorem s_loop (X : Cx) {D : List Int} (hD : D.length = X.S.length) : ∀ (k i : Nat), i + k = X.S.length → LoopOk Try.prog none (lp Try.prog 37 13) (T38 X i) [] (H37 X D) 8 (F38 X D (stBad D (X.S.drop i) i))
  | 0, i, h => by
    have : i = X.S.length := by omega
    subst this
    rw [List.drop_length]
    exact loopOk_out (s_out X D) (by show Exit.exit 2 ≠ Exit.normal; simp)
  | k + 1, i, h => by
    have hlt : i < X.S.length := by omega
    have hi : X.S[i]? = some X.S[i] := List.getElem?_eq_getElem hlt
    have h1 := s_go X hD hi
    rw [List.drop_eq_getElem_cons hlt]
    simp only [stBad]
    cases hb : badSt X.S[i] (D.getD i 0) with
    | true => rw [hb] at h1; exact loopOk_out h1 (by show Exit.ret ≠ Exit.normal; simp)
    | false =>
      rw [hb] at h1
      rw [show (i : Int) + 1 = ((i + 1 : Nat) : Int) by push_cast; rfl, wrap_nat (by have := X.hS; omega)] at h1
      exact loop_step h1 (s_loop X hD k (i + 1) (by omega))
termination_by k => k
theorem mk28 {n : Nat} (hn : n ≤ 1000) : Hint.Ok Try.prog (.mk 28 (.int .i64 n) (.int .i64 n) n (List.replicate n (.int .i64 0))) :=
  mk_n (z := .int .i64 0) (by_ := 8) u28 (by kernel_rfl) (by kernel_rfl) rfl (by omega) hn
theorem rep_ic (n : Nat) : List.replicate n (Value.int .i64 0) = ic (List.replicate n 0) := by simp [ic]
def cut0 : List Bool := List.replicate 24 false
/-- A contract about a topology with a new block, at other new names. -/
theorem Cx.atN {X : Cx} {f : FuncId} {rest : List Value} {v v' : Value} {k k' n' nx' : Nat} {ds : List Value} (h : Memo.Ok Try.prog ⟨f, 2, X.v :: rest, X.V, v, [(k, ds)], n'⟩) (hd : avL ds = true) (nx : Nat) (hc : (En.smallL (En.small 2 5) rest && En.small n' 5 v && inNew 2 n' [(k, ds)]) = true)
    (h1 : rest.map (renV (shift (fun b => b) 2 nx) 5) = rest) (h2 : renV (shift (fun b => b) 2 nx) 5 v = v') (h3 : shift (fun b => b) 2 nx k = k') (h4 : nx + (n' - 2) = nx') : Memo.Ok Try.prog ⟨f, nx, X.v :: rest, X.V, v', [(k', ds)], nx'⟩ := by
  simp only [Bool.and_eq_true] at hc
  have hb : below 2 X.V = true := by kernel_rfl
  have := memo_ren h (fun b => b) nx X.V (by simp only [En.smallL, X.small (Nat.le_refl 2), hc.1.1, hc.1.2, hc.2, hb, Bool.and_self]) (X.smallH 2) (by simp [En.smallH, small_avL hd]) (fun b cs hb => by
    by_cases h0 : 0 = b
    · subst h0
      simp [Cx.V, roHp, Hp.get] at hb ⊢
      subst hb
      exact (renV_avL X.avs).symm
    · by_cases h1 : 1 = b
      · subst h1
        simp [Cx.V, roHp, Hp.get] at hb ⊢
        subst hb
        exact (renV_avL X.avk).symm
      · simp [Cx.V, roHp, Hp.get, h0, h1] at hb)
  simp only [List.map_cons, X.ren, h1, h2, renH, h3, h4, renV_avL hd] at this
  exact this
theorem bc_small (C : List Bool) {k m : Nat} : En.smallL (En.small k m) (bc C) = true := by
  induction C with
  | nil => rfl
  | cons b C ih => simp only [bc, List.map_cons, En.smallL] at ih ⊢; rw [ih]; cases m <;> rfl
theorem reach_m (X : Cx) {C : List Bool} {a : Nat} (hN : X.N = X.S.length) (hC : C.length = 24) (h24 : X.ls.length ≤ 24) (he : ∀ l ∈ X.ls, Ends X.S.length l) (ha : a < X.S.length) (nx : Nat) :
    Memo.Ok Try.prog ⟨47, nx, [X.v, .int .i64 a, .agg ⟨bc C⟩], X.V, .slice (some ⟨nx + 2, 0, none⟩) X.S.length X.S.length, [(nx + 2, bc (reachS C X.ls X.S.length a))], nx + 3⟩ :=
  Cx.atN (reach_0 X hN hC h24 he ha) (bc_av _) nx (by simp [En.smallL, En.small, bc_small, inNew]) (by
    have : renV (shift (fun b => b) 2 nx) 5 (.agg ⟨bc C⟩) = .agg ⟨bc C⟩ := by
      show Value.agg ((bc C).map _).toArray = _
      rw [show (bc C).map (renV (shift (fun b => b) 2 nx) 4) = bc C by simp [bc, renV]]
    simp only [List.map_cons, List.map_nil, this]
    rfl) rfl rfl rfl
theorem sound_m (X : Cx) (hN : X.N = X.S.length) (hd : X.ls.length ≤ X.d) (hd2 : X.d < openCap) {p : Bool} (h : soundS X = p) (nx : Nat) : Memo.Ok Try.prog ⟨57, nx, [X.v], X.V, .bool p, [], nx⟩ :=
  Cx.at (rest := []) (h ▸ sound_0 X hN hd hd2) nx rfl rfl rfl
theorem sndGo_mem {X : Cx} : ∀ {l : List Lk} {i : Nat}, sndGo X l i = true → ∀ x ∈ l, k1 X.N x = true
  | [], _, _, x, h => by cases h
  | y :: l, i, h, x, hx => by
    simp only [sndGo, linkOk, Bool.and_eq_true] at h
    rcases List.mem_cons.1 hx with rfl | hx
    · exact h.1.1
    · exact sndGo_mem h.2 x hx
theorem ends_of {N : Int} {l : Lk} (h : k1 N l = true) : Ends N l := by
  simp only [k1, nodeS, Bool.and_eq_true, decide_eq_true_eq] at h
  exact ⟨h.1.1.1, h.1.1.2, h.1.2.1, h.1.2.2⟩
/-- The counts of a topology's links, node by node. -/
def cntS (X : Cx) : List Int := cnt X.ls (List.replicate X.S.length 0)
def allS (X : Cx) : Option Nat := findF (reachS cut0 X.ls X.S.length 0) 0
def firstS (X : Cx) : Bool := !(decide (X.N < 2) || decide (X.N > 12)) && !((X.S.length : Int) != X.N) && !decide ((X.ls.length : Int) > 24)
def lateS (X : Cx) : Bool := soundS X && !stBad (cntS X) X.S 0 && !(allS X).isSome
def checkS (X : Cx) : Bool := firstS X && lateS X
theorem check_no (X : Cx) (h : firstS X = false) : Memo.Ok Try.prog ⟨37, 2, [X.v], X.V, .int .i64 260, [], 2⟩ := by
  unfold firstS at h
  have key : ∀ p1 p2 p3 p4, decide (X.N < 2) = p1 → decide (X.N > 12) = p2 → ((X.S.length : Int) != X.N) = p3 → decide ((X.ls.length : Int) > 24) = p4 → (!(p1 || p2) && !p3 && !p4) = false → Memo.Ok Try.prog ⟨37, 2, [X.v], X.V, .int .i64 260, [], 2⟩ := by
    intro p1 p2 p3 p4 h1 h2 h3 h4 h5
    cases p1
    · cases p2
      · cases p3
        · cases p4
          · cases h5
          · exact memo_pure (hs := [(1, .frz), (10, .val (.bool (decide (X.N < 2))) (.bool _)), (14, .val (.bool (decide (X.N > 12))) (.bool _)), (22, .val (.bool ((X.S.length : Int) != X.N)) (.bool _)), (27, .val (.bool (decide ((X.ls.length : Int) > 24))) (.bool _))]) (ch := []) 5 (evk 50) special ⟨trivial, congrArg Value.bool h1, congrArg Value.bool h2, congrArg Value.bool h3, congrArg Value.bool h4, trivial⟩ trivial (X.hV rfl) (X.smallH 2) (by kernel_rfl)
        · exact memo_pure (hs := [(1, .frz), (10, .val (.bool (decide (X.N < 2))) (.bool _)), (14, .val (.bool (decide (X.N > 12))) (.bool _)), (22, .val (.bool ((X.S.length : Int) != X.N)) (.bool _))]) (ch := []) 4 (evk 50) special ⟨trivial, congrArg Value.bool h1, congrArg Value.bool h2, congrArg Value.bool h3, trivial⟩ trivial (X.hV rfl) (X.smallH 2) (by kernel_rfl)
      · exact memo_pure (hs := [(1, .frz), (10, .val (.bool (decide (X.N < 2))) (.bool _)), (14, .val (.bool (decide (X.N > 12))) (.bool _))]) (ch := []) 3 (evk 50) special ⟨trivial, congrArg Value.bool h1, congrArg Value.bool h2, trivial⟩ trivial (X.hV rfl) (X.smallH 2) (by kernel_rfl)
    · exact memo_pure (hs := [(1, .frz), (10, .val (.bool (decide (X.N < 2))) (.bool _))]) (ch := []) 3 (evk 50) special ⟨trivial, congrArg Value.bool h1, trivial⟩ trivial (X.hV rfl) (X.smallH 2) (by kernel_rfl)
  exact key _ _ _ _ rfl rfl rfl rfl h
theorem first_true {X : Cx} (h : firstS X = true) : X.N = X.S.length ∧ 2 ≤ X.S.length ∧ X.S.length ≤ 12 ∧ X.ls.length ≤ 24 := by
  simp only [firstS, Bool.and_eq_true, Bool.not_eq_true', Bool.or_eq_false_iff, decide_eq_false_iff_not, bne_eq_false_iff_eq] at h
  omega
theorem check_yes (X : Cx) (h : firstS X = true) (hd : X.ls.length ≤ X.d) (hd2 : X.d < openCap) : Memo.Ok Try.prog ⟨37, 2, [X.v], X.V, .int .i64 (bif lateS X then 0 else 260), [], 2⟩ := by
  obtain ⟨hN, hn2, hn12, h24⟩ := first_true h
  have q1 : decide (X.N < 2) = false := decide_eq_false (by omega)
  have q2 : decide (X.N > 12) = false := decide_eq_false (by omega)
  have q3 : ((X.S.length : Int) != X.N) = false := by rw [hN]; simp
  have q4 : decide ((X.ls.length : Int) > 24) = false := decide_eq_false (by omega)
  unfold lateS
  cases hp : soundS X with
  | false =>
    have ms := sound_m X hN hd hd2 hp 5
    exact memo_pure (hs := [(1, .frz), (10, .val (.bool (decide (X.N < 2))) (.bool _)), (14, .val (.bool (decide (X.N > 12))) (.bool _)), (22, .val (.bool ((X.S.length : Int) != X.N)) (.bool _)), (27, .val (.bool (decide ((X.ls.length : Int) > 24))) (.bool _)), (30, .call _)]) (ch := []) 5 (evk 50) special ⟨trivial, congrArg Value.bool q1, congrArg Value.bool q2, congrArg Value.bool q3, congrArg Value.bool q4, ms, trivial⟩ trivial (X.hV rfl) (X.smallH 2) (by kernel_rfl)
  | true =>
    have ms := sound_m X hN hd hd2 hp 5
    have he : ∀ l ∈ X.ls, Ends X.S.length l := fun l hl => hN ▸ ends_of (sndGo_mem hp l hl)
    have c1 := c_loop X he X.ls.length 0 (List.replicate X.S.length 0) (by simp) (by omega)
    rw [List.drop_zero] at c1
    have hcl : (cntS X).length = X.S.length := by unfold cntS; rw [cnt_len]; simp
    have c2 := s_loop X hcl X.S.length 0 (by omega)
    rw [List.drop_zero] at c2
    have mr := reach_m X (C := cut0) (a := 0) hN (by simp [cut0]) h24 he (by omega) 8
    have hrl : (reachS cut0 X.ls X.S.length 0).length = X.S.length := by unfold reachS; rw [rIter_len]; simp
    have mk := mk28 X.hS
    rw [rep_ic] at mk
    have key : ∀ p1 p2, stBad (cntS X) X.S 0 = p1 → (allS X).isSome = p2 → Memo.Ok Try.prog ⟨37, 2, [X.v], X.V, .int .i64 (bif true && !p1 && !p2 then 0 else 260), [], 2⟩ := by
      intro p1 p2 h1 h2
      rw [h1] at c2
      have mc := contains_m (c := X.S.length) (R := reachS cut0 X.ls X.S.length 0) (by rw [hrl]; exact X.hS) h2 10 11
      rw [hrl] at mc
      have hV := X.hV (rest := []) (v := .int .i64 (bif true && !p1 && !p2 then 0 else 260)) rfl
      have hSm := X.smallH 2
      clear he hcl hrl h1 h2 hp
      obtain ⟨N, sa', c, sb', d, st, lk, S, ls, a1, a2, a3, a4, a5, a6, a7, a8⟩ := X
      dsimp only at hN
      subst hN
      cases p1
      · cases p2 <;>
          exact memo_pure (hs := [(1, .frz), (10, .val (.bool (decide ((S.length : Int) < 2))) (.bool _)), (14, .val (.bool (decide ((S.length : Int) > 12))) (.bool _)), (22, .val (.bool ((S.length : Int) != S.length)) (.bool _)), (27, .val (.bool (decide ((ls.length : Int) > 24))) (.bool _)), (30, .call _), (35, .mk _ _ _ _ _), (84, .call _), (85, .call _)]) (ch := [⟨7, none, .loop (lp Try.prog 37 7), T37 _ 0, [], H37 _ _, 7, _, true⟩, ⟨13, none, .loop (lp Try.prog 37 13), T38 _ 0, [], H37 _ _, 8, _, true⟩]) 11 (evk 50) special
            ⟨trivial, congrArg Value.bool q1, congrArg Value.bool q2, congrArg Value.bool q3, congrArg Value.bool q4, ms, mk, mr, mc, trivial⟩ ⟨codeOk_loop c1, codeOk_loop c2, trivial⟩ hV hSm (by kernel_rfl)
      · exact memo_pure (hs := [(1, .frz), (10, .val (.bool (decide ((S.length : Int) < 2))) (.bool _)), (14, .val (.bool (decide ((S.length : Int) > 12))) (.bool _)), (22, .val (.bool ((S.length : Int) != S.length)) (.bool _)), (27, .val (.bool (decide ((ls.length : Int) > 24))) (.bool _)), (30, .call _), (35, .mk _ _ _ _ _)]) (ch := [⟨7, none, .loop (lp Try.prog 37 7), T37 _ 0, [], H37 _ _, 7, _, true⟩, ⟨13, none, .loop (lp Try.prog 37 13), T38 _ 0, [], H37 _ _, 8, _, true⟩]) 8 (evk 50) special
            ⟨trivial, congrArg Value.bool q1, congrArg Value.bool q2, congrArg Value.bool q3, congrArg Value.bool q4, ms, mk, trivial⟩ ⟨codeOk_loop c1, codeOk_loop c2, trivial⟩ hV hSm (by kernel_rfl)
    exact key _ _ rfl rfl
theorem check_0 (X : Cx) (hd : X.ls.length ≤ X.d) (hd2 : X.d < openCap) : Memo.Ok Try.prog ⟨37, 2, [X.v], X.V, .int .i64 (bif checkS X then 0 else 260), [], 2⟩ := by
  unfold checkS
  cases h : firstS X with
  | false => exact check_no X h
  | true => exact check_yes X h hd hd2
theorem check_m (X : Cx) (hd : X.ls.length ≤ X.d) (hd2 : X.d < openCap) {p : Bool} (h : checkS X = p) (nx : Nat) : Memo.Ok Try.prog ⟨37, nx, [X.v], X.V, .int .i64 (bif p then 0 else 260), [], nx⟩ :=
  Cx.at (rest := []) (h ▸ check_0 X hd hd2) nx rfl rfl rfl
end Go.Proofs.Ytkngbmaomgfcjaa.topo
