/- Contracts: the references of layers 27 and 37: Right, Check, Line, None, Heads; want. -/
import Derived.Test.YtjconcfkpgkbkaaChL
namespace Go.Proofs.Ytjconcfkpgkbkaa.choose
open Go Go.En
set_option linter.unusedVariables false

/-! ### Right -/
def T47 (s i : Int) : List Value := mkT 58 0 [(1, pt 1), (3, .int .i64 s), (4, .int .i64 i)]
def TR47 (s : Int) : List Value := mkT 58 0 [(1, pt 1), (3, .int .i64 s)]
def TE47 : List Value := mkT 58 0 [(2, .bool false)]
section
variable {es : List Ent} {c : Nat} {cyc : Int}
theorem r_go {s : Int} {i : Nat} {x : Ent} (hi : es[i]? = some x) {q : Bool} (hq : entOk x = q) :
    CodeOk Try.prog none (lp Try.prog 47 5) (T47 s i) [] (H29 es c cyc) 4 (bif q then ⟨.normal, T47 (W (s + x.long)) (W (i + 1)), [], H29 es c cyc, 4⟩ else ⟨.ret, TE47, [], H29 es c cyc, 4⟩) := by
  have hlt := lt_of hi
  have hd : decide ((i : Int) < es.length) = true := decide_eq_true (by omega)
  have l1 := ld59 (ro := true) hi
  obtain ⟨m, g⟩ := x
  have key : ∀ p1 p2 p3 p4, decide (m < 0) = p1 → decide (m > 255) = p2 → decide (g < 1) = p3 → decide (g > 9600000) = p4 → (!(p1 || p2 || p3 || p4)) = q → CodeOk Try.prog none (lp Try.prog 47 5) (T47 s i) [] (H29 es c cyc) 4 (bif q then ⟨.normal, T47 (W (s + g)) (W (i + 1)), [], H29 es c cyc, 4⟩ else ⟨.ret, TE47, [], H29 es c cyc, 4⟩) := by
    intro p1 p2 p3 p4 h1 h2 h3 h4 h
    subst h
    cases p1 <;> cases p2 <;> cases p3 <;> cases p4 <;>
      exact code_at (hs := [(20, .val (.bool (decide ((i : Int) < es.length))) (.bool true)), (26, .ix 22 (esl es.length c) (.int .i64 i) _), (27, .ld 59 _ 0 (ecs es) true _), (30, .val (.bool (decide (m < 0))) (.bool _)), (34, .val (.bool (decide (m > 255))) (.bool _)), (39, .val (.bool (decide (g < 1))) (.bool _)), (44, .val (.bool (decide (g > 9600000))) (.bool _))]) (ch := []) (evk 50) special
        ⟨congrArg Value.bool hd, ix22 hlt, ⟨l1, _, rfl⟩, congrArg Value.bool h1, congrArg Value.bool h2, congrArg Value.bool h3, congrArg Value.bool h4, trivial⟩ trivial (by kernel_rfl) (H29_below es c cyc (by omega)) (H29_below es c cyc (by omega)) (by kernel_rfl)
  exact key _ _ _ _ rfl rfl rfl rfl hq
theorem r_out {s : Int} : CodeOk Try.prog none (lp Try.prog 47 5) (T47 s es.length) [] (H29 es c cyc) 4 ⟨.exit 0, TR47 s, [], H29 es c cyc, 4⟩ := by
  have hd : decide ((es.length : Int) < es.length) = false := decide_eq_false (by omega)
  exact code_at (hs := [(20, .val (.bool (decide ((es.length : Int) < es.length))) (.bool false))]) (ch := []) (evk 50) special ⟨congrArg Value.bool hd, trivial⟩ trivial (by kernel_rfl) (H29_below es c cyc (by omega)) (H29_below es c cyc (by omega)) (by kernel_rfl)
def F47 (es : List Ent) (c : Nat) (cyc : Int) : Option Int → Res
  | some s => ⟨.exit 0, TR47 s, [], H29 es c cyc, 4⟩
  | none => ⟨.ret, TE47, [], H29 es c cyc, 4⟩
theorem r_loop (hn : es.length ≤ 1000) : ∀ (k i : Nat) (s : Int), i + k = es.length → LoopOk Try.prog none (lp Try.prog 47 5) (T47 s i) [] (H29 es c cyc) 4 (F47 es c cyc (sumG (es.drop i) s))
  | 0, i, s, h => by
    have : i = es.length := by omega
    subst this
    rw [List.drop_length]
    exact loopOk_out r_out (by show Exit.exit 0 ≠ Exit.normal; simp)
  | k + 1, i, s, h => by
    have hlt : i < es.length := by omega
    have hi : es[i]? = some es[i] := List.getElem?_eq_getElem hlt
    rw [List.drop_eq_getElem_cons hlt]
    simp only [sumG]
    cases hq : entOk es[i] with
    | false =>
      have h1 := r_go (c := c) (cyc := cyc) (s := s) hi hq
      exact loopOk_out h1 (by show Exit.ret ≠ Exit.normal; simp)
    | true =>
      have h1 := r_go (c := c) (cyc := cyc) (s := s) hi hq
      simp only [cond_true] at h1
      rw [show (i : Int) + 1 = ((i + 1 : Nat) : Int) by push_cast; rfl, show W ((i + 1 : Nat) : Int) = ((i + 1 : Nat) : Int) from wrap_nat (by omega)] at h1
      exact loop_step h1 (r_loop hn k (i + 1) _ (by omega))
termination_by k => k
theorem right_0 (hn : es.length ≤ 1000) : Memo.Ok Try.prog ⟨47, 1, [gv es.length c cyc], [(0, ecs es)], .bool (chkG es cyc), [], 1⟩ := by
  have hS : En.smallH 1 [(0, ecs es)] = true := by simp [En.smallH, small_avL (ecs_av es)]
  have hlo := r_loop (c := c) (cyc := cyc) hn es.length 0 0 (by omega)
  rw [List.drop_zero] at hlo
  have key : ∀ p1 p2 g, decide ((es.length : Int) < 1) = p1 → decide ((es.length : Int) > 128) = p2 → sumG es 0 = g → Memo.Ok Try.prog ⟨47, 1, [gv es.length c cyc], [(0, ecs es)], .bool (!(p1 || p2) && fitG cyc g), [], 1⟩ := by
    intro p1 p2 g h1 h2 hg
    rw [hg] at hlo
    cases p1
    · cases p2
      · cases g with
        | none =>
          exact memo_pure (hs := [(1, .frz), (9, .val (.bool (decide ((es.length : Int) < 1))) (.bool false)), (14, .val (.bool (decide ((es.length : Int) > 128))) (.bool false))]) (ch := [⟨5, none, .loop (lp Try.prog 47 5), T47 0 0, [], H29 es c cyc, 4, _, true⟩]) 4 (evk 50) special
            ⟨trivial, congrArg Value.bool h1, congrArg Value.bool h2, trivial⟩ ⟨codeOk_loop hlo, trivial⟩ (by kernel_rfl) hS (by kernel_rfl)
        | some s =>
          have key2 : ∀ q1 q2, (s == cyc) = q1 → decide (s ≤ 9600000) = q2 → Memo.Ok Try.prog ⟨47, 1, [gv es.length c cyc], [(0, ecs es)], .bool (q1 && q2), [], 1⟩ := by
            intro q1 q2 e1 e2
            cases q1 <;> cases q2 <;>
              exact memo_pure (hs := [(1, .frz), (9, .val (.bool (decide ((es.length : Int) < 1))) (.bool false)), (14, .val (.bool (decide ((es.length : Int) > 128))) (.bool false)), (53, .val (.bool (s == cyc)) (.bool _)), (56, .val (.bool (decide (s ≤ 9600000))) (.bool _))]) (ch := [⟨5, none, .loop (lp Try.prog 47 5), T47 0 0, [], H29 es c cyc, 4, _, true⟩]) 4 (evk 50) special
                ⟨trivial, congrArg Value.bool h1, congrArg Value.bool h2, congrArg Value.bool e1, congrArg Value.bool e2, trivial⟩ ⟨codeOk_loop hlo, trivial⟩ (by kernel_rfl) hS (by kernel_rfl)
          have h3 := key2 _ _ rfl rfl
          have e : fitG cyc (some s) = ((s == cyc) && decide (s ≤ 9600000)) := by
            rw [Bool.eq_iff_iff]
            simp only [fitG, Bool.not_eq_true', Bool.or_eq_false_iff, bne_eq_false_iff_eq, decide_eq_false_iff_not, Bool.and_eq_true, beq_iff_eq, decide_eq_true_eq]
            omega
          rw [e]
          exact h3
      · exact memo_pure (hs := [(1, .frz), (9, .val (.bool (decide ((es.length : Int) < 1))) (.bool false)), (14, .val (.bool (decide ((es.length : Int) > 128))) (.bool true))]) (ch := []) 4 (evk 50) special
            ⟨trivial, congrArg Value.bool h1, congrArg Value.bool h2, trivial⟩ trivial (by kernel_rfl) hS (by kernel_rfl)
    · cases p2 <;> exact memo_pure (hs := [(1, .frz), (9, .val (.bool (decide ((es.length : Int) < 1))) (.bool true))]) (ch := []) 3 (evk 50) special
            ⟨trivial, congrArg Value.bool h1, trivial⟩ trivial (by kernel_rfl) hS (by kernel_rfl)
  exact key _ _ _ rfl rfl rfl
theorem right_m (hn : es.length ≤ 1000) {p : Bool} (h : chkG es cyc = p) (nx : Nat) : Memo.Ok Try.prog ⟨47, nx, [gv es.length c cyc], [(0, ecs es)], .bool p, [], nx⟩ :=
  memo_blk (h ▸ right_0 hn) (ecs_av es) 0 nx (by kernel_rfl) rfl rfl
theorem rcheck_0 (hn : es.length ≤ 1000) {p : Bool} (h : chkG es cyc = p) : Memo.Ok Try.prog ⟨30, 1, [gv es.length c cyc], [(0, ecs es)], .int .i64 (bif p then 0 else 370), [], 1⟩ := by
  have hS : En.smallH 1 [(0, ecs es)] = true := by simp [En.smallH, small_avL (ecs_av es)]
  have m := right_m (c := c) hn h 2
  cases p <;> exact memo_pure (hs := [(1, .frz), (4, .call _)]) (ch := []) 2 (evk 50) special ⟨trivial, m, trivial⟩ trivial (by kernel_rfl) hS (by kernel_rfl)
theorem rcheck_m (hn : es.length ≤ 1000) {p : Bool} (h : chkG es cyc = p) (nx : Nat) : Memo.Ok Try.prog ⟨30, nx, [gv es.length c cyc], [(0, ecs es)], .int .i64 (bif p then 0 else 370), [], nx⟩ :=
  memo_blk (rcheck_0 hn h) (ecs_av es) 0 nx (by kernel_rfl) rfl rfl
theorem rline_0 {per sh : Int} (hn : es.length ≤ 1000) : Memo.Ok Try.prog ⟨14, 1, [lv es.length c cyc per sh], [(0, ecs es)], .bool (lineS (chkG es cyc) per sh), [], 1⟩ := by
  have hS : En.smallH 1 [(0, ecs es)] = true := by simp [En.smallH, small_avL (ecs_av es)]
  have key : ∀ p p1 p2 p3 p4, chkG es cyc = p → decide (per ≥ 1) = p1 → decide (per ≤ 1000) = p2 → decide (sh ≥ -1000) = p3 → decide (sh ≤ 1000) = p4 →
      Memo.Ok Try.prog ⟨14, 1, [lv es.length c cyc per sh], [(0, ecs es)], .bool (p && (p1 && (p2 && (p3 && p4)))), [], 1⟩ := by
    intro p p1 p2 p3 p4 h h1 h2 h3 h4
    have mc := rcheck_m (c := c) hn h 2
    cases p
    · exact memo_pure (hs := [(1, .frz), (5, .call _)]) (ch := []) 2 (evk 50) special ⟨trivial, mc, trivial⟩ trivial (by kernel_rfl) hS (by kernel_rfl)
    · cases p1 <;> cases p2 <;> cases p3 <;> cases p4 <;>
        exact memo_pure (hs := [(1, .frz), (5, .call _), (10, .val (.bool (decide (per ≥ 1))) (.bool _)), (15, .val (.bool (decide (per ≤ 1000))) (.bool _)), (20, .val (.bool (decide (sh ≥ -1000))) (.bool _)), (25, .val (.bool (decide (sh ≤ 1000))) (.bool _))]) (ch := []) 2 (evk 50) special
          ⟨trivial, mc, congrArg Value.bool h1, congrArg Value.bool h2, congrArg Value.bool h3, congrArg Value.bool h4, trivial⟩ trivial (by kernel_rfl) hS (by kernel_rfl)
  have h := key _ _ _ _ _ rfl rfl rfl rfl rfl
  have e : lineS (chkG es cyc) per sh = (chkG es cyc && (decide (per ≥ 1) && (decide (per ≤ 1000) && (decide (sh ≥ -1000) && decide (sh ≤ 1000))))) := by
    unfold lineS
    congr 1
    rw [Bool.eq_iff_iff]
    simp only [Bool.not_eq_true', Bool.or_eq_false_iff, decide_eq_false_iff_not, Bool.and_eq_true, decide_eq_true_eq]
    omega
  rw [e]
  exact h
theorem rline_m {per sh : Int} (hn : es.length ≤ 1000) {p : Bool} (h : lineS (chkG es cyc) per sh = p) (nx : Nat) : Memo.Ok Try.prog ⟨14, nx, [lv es.length c cyc per sh], [(0, ecs es)], .bool p, [], nx⟩ :=
  memo_blk (h ▸ rline_0 hn) (ecs_av es) 0 nx (by kernel_rfl) rfl rfl
end
theorem rightN (c : Nat) (cyc : Int) : Memo.Ok Try.prog ⟨47, 0, [.agg #[.slice none 0 c, .int .i64 cyc]], [], .bool false, [], 0⟩ :=
  memo_pure (hs := []) (ch := []) 2 (evk 50) special trivial trivial (by kernel_rfl) rfl (by kernel_rfl)
theorem rcheckN (c : Nat) (cyc : Int) : Memo.Ok Try.prog ⟨30, 0, [.agg #[.slice none 0 c, .int .i64 cyc]], [], .int .i64 370, [], 0⟩ := by
  have m := memo_any (rightN c cyc) 1 (by kernel_rfl) rfl rfl
  exact memo_pure (hs := [(4, .call _)]) (ch := []) 1 (evk 50) special ⟨m, trivial⟩ trivial (by kernel_rfl) rfl (by kernel_rfl)
theorem rlineN (c : Nat) (cyc per sh : Int) (nx : Nat) : Memo.Ok Try.prog ⟨14, nx, [lvN c cyc per sh], [], .bool false, [], nx⟩ := by
  have mc := memo_any (rcheckN c cyc) 1 (by kernel_rfl) rfl rfl
  have : Memo.Ok Try.prog ⟨14, 0, [lvN c cyc per sh], [], .bool false, [], 0⟩ := memo_pure (hs := [(5, .call _)]) (ch := []) 1 (evk 50) special ⟨mc, trivial⟩ trivial (by kernel_rfl) rfl (by kernel_rfl)
  exact memo_any this nx (by kernel_rfl) rfl rfl
/-! ### None, Heads -/
theorem none_m (x : Pt) {q : Bool} (h : eqPt x zp = q) (nx : Nat) : Memo.Ok Try.prog ⟨32, nx, [x.v], [], .bool q, [], nx⟩ := by
  have e1 := fun xo yo => h ▸ (eql_pt x zp xo yo).1
  have : Memo.Ok Try.prog ⟨32, 0, [x.v], [], .bool q, [], 0⟩ := memo_pure (hs := [(5, .bin .eql 57 _ _ _)]) (ch := []) 1 (evk 50) special ⟨e1, trivial⟩ trivial (by kernel_rfl) rfl (by kernel_rfl)
  exact memo_any this nx (by kernel_rfl) rfl rfl
theorem ldC2 {b i : Nat} {hs : List Pt} {x : Pt} {ro : Bool} (h : hs[i]? = some x) : doLoad Try.prog [(b, .cells (pcs hs) ro)] 3 (.pointer (some ⟨b, 0 + i * 7 + 0 + 2, none⟩)) = some (.int .i64 x.it.cls) := ld1 z3 (cellsOfL_get (f := Pt.cells) (s := 7) (fun _ => rfl) h 2 _ rfl)
theorem ldR {b i : Nat} {hs : List Pt} {x : Pt} {ro : Bool} (h : hs[i]? = some x) : doLoad Try.prog [(b, .cells (pcs hs) ro)] 4 (.pointer (some ⟨b, 0 + i * 7 + 6, none⟩)) = some (.bool x.rest) := ld1 z4 (cellsOfL_get (f := Pt.cells) (s := 7) (fun _ => rfl) h 6 _ rfl)
def T16 (n c : Nat) (r i : Int) : List Value := mkT 42 0 [(0, hv 0 n c), (3, .int .i64 r), (4, .int .i64 i)]
def TR16 (r : Int) : List Value := mkT 42 0 [(3, .int .i64 r)]
def TE16 : List Value := mkT 42 0 [(2, .bool false)]
def Q16 (hs : List Pt) (n c : Nat) (i : Int) : Option Int → Res
  | some r => ⟨.normal, T16 n c r (W (i + 1)), [], H1 (pcs hs), 2⟩
  | none => ⟨.ret, TE16, [], H1 (pcs hs), 2⟩
theorem g_go {hs : List Pt} {n c i : Nat} {x : Pt} (hi : hs[i]? = some x) (hlt : i < n) (h8 : i < 8) (r : Int) :
    CodeOk Try.prog none (lp Try.prog 16 5) (T16 n c r i) [] (H1 (pcs hs)) 2 (Q16 hs n c i (hstep x i r)) := by
  have hd : decide ((i : Int) < 8) = true := decide_eq_true (by omega)
  have l1 := ld57 (b := 0) (ro := true) hi
  have l2 := ldC2 (b := 0) (ro := true) hi
  have l3 := ldR (b := 0) (ro := true) hi
  unfold hstep hbad
  have key : ∀ q1 q2 q3 q4, eqPt x zp = q1 → partC x = q2 → (x.it.cls != (i : Int)) = q3 → x.rest = q4 → CodeOk Try.prog none (lp Try.prog 16 5) (T16 n c r i) [] (H1 (pcs hs)) 2 (Q16 hs n c i (bif q1 then some r else bif !q2 || q3 then none else some (bif q4 then W (r + 1) else r))) := by
    intro q1 q2 q3 q4 h1 h2 h3 h4
    have m1 := none_m x h1 2
    have m2 := partR_m x (part_eq x ▸ h2) 2
    obtain ⟨⟨a, b, cl, d, e⟩, l, rr⟩ := x
    simp only at h3 h4
    subst h4
    cases q1
    · cases q2
      · exact code_at (hs := [(9, .val (.bool (decide ((i : Int) < 8))) (.bool true)), (14, .ix 27 (hv 0 n c) (.int .i64 i) _), (15, .ld 57 _ 0 (pcs hs) true _), (16, .call _), (19, .ix 27 (hv 0 n c) (.int .i64 i) _), (20, .ld 57 _ 0 (pcs hs) true _), (21, .call _)]) (ch := []) (evk 50) special
          ⟨congrArg Value.bool hd, ix27 hlt, ⟨l1, _, rfl⟩, m1, ix27 hlt, ⟨l1, _, rfl⟩, m2, trivial⟩ trivial (by kernel_rfl) (H1_below (pcs_av hs) (by omega)) (H1_below (pcs_av hs) (by omega)) (by kernel_rfl)
      · cases q3
        · cases rr <;> exact code_at (hs := [(9, .val (.bool (decide ((i : Int) < 8))) (.bool true)), (14, .ix 27 (hv 0 n c) (.int .i64 i) _), (15, .ld 57 _ 0 (pcs hs) true _), (16, .call _), (19, .ix 27 (hv 0 n c) (.int .i64 i) _), (20, .ld 57 _ 0 (pcs hs) true _), (21, .call _), (26, .ix 27 (hv 0 n c) (.int .i64 i) _), (29, .ld 3 _ 0 (pcs hs) true _), (31, .val (.bool (cl != (i : Int))) (.bool _)), (35, .ix 27 (hv 0 n c) (.int .i64 i) _), (37, .ld 4 _ 0 (pcs hs) true _)]) (ch := []) (evk 50) special
            ⟨congrArg Value.bool hd, ix27 hlt, ⟨l1, _, rfl⟩, m1, ix27 hlt, ⟨l1, _, rfl⟩, m2, ix27 hlt, ⟨l2, _, rfl⟩, congrArg Value.bool h3, ix27 hlt, ⟨l3, _, rfl⟩, trivial⟩ trivial (by kernel_rfl) (H1_below (pcs_av hs) (by omega)) (H1_below (pcs_av hs) (by omega)) (by kernel_rfl)
        · exact code_at (hs := [(9, .val (.bool (decide ((i : Int) < 8))) (.bool true)), (14, .ix 27 (hv 0 n c) (.int .i64 i) _), (15, .ld 57 _ 0 (pcs hs) true _), (16, .call _), (19, .ix 27 (hv 0 n c) (.int .i64 i) _), (20, .ld 57 _ 0 (pcs hs) true _), (21, .call _), (26, .ix 27 (hv 0 n c) (.int .i64 i) _), (29, .ld 3 _ 0 (pcs hs) true _), (31, .val (.bool (cl != (i : Int))) (.bool _))]) (ch := []) (evk 50) special
            ⟨congrArg Value.bool hd, ix27 hlt, ⟨l1, _, rfl⟩, m1, ix27 hlt, ⟨l1, _, rfl⟩, m2, ix27 hlt, ⟨l2, _, rfl⟩, congrArg Value.bool h3, trivial⟩ trivial (by kernel_rfl) (H1_below (pcs_av hs) (by omega)) (H1_below (pcs_av hs) (by omega)) (by kernel_rfl)
    · exact code_at (hs := [(9, .val (.bool (decide ((i : Int) < 8))) (.bool true)), (14, .ix 27 (hv 0 n c) (.int .i64 i) _), (15, .ld 57 _ 0 (pcs hs) true _), (16, .call _)]) (ch := []) (evk 50) special
          ⟨congrArg Value.bool hd, ix27 hlt, ⟨l1, _, rfl⟩, m1, trivial⟩ trivial (by kernel_rfl) (H1_below (pcs_av hs) (by omega)) (H1_below (pcs_av hs) (by omega)) (by kernel_rfl)
  exact key _ _ _ _ rfl rfl rfl rfl
theorem g_out {hs : List Pt} {n c : Nat} {r : Int} : CodeOk Try.prog none (lp Try.prog 16 5) (T16 n c r 8) [] (H1 (pcs hs)) 2 ⟨.exit 0, TR16 r, [], H1 (pcs hs), 2⟩ :=
  code_at (hs := []) (ch := []) (evk 50) special trivial trivial (by kernel_rfl) (H1_below (pcs_av hs) (by omega)) (H1_below (pcs_av hs) (by omega)) (by kernel_rfl)
def F16 (hs : List Pt) : Option Int → Res
  | some r => ⟨.exit 0, TR16 r, [], H1 (pcs hs), 2⟩
  | none => ⟨.ret, TE16, [], H1 (pcs hs), 2⟩
theorem g_loop {hs : List Pt} {c : Nat} (h8 : hs.length = 8) : ∀ (k i : Nat) (r : Int), i + k = 8 → LoopOk Try.prog none (lp Try.prog 16 5) (T16 hs.length c r i) [] (H1 (pcs hs)) 2 (F16 hs (headsGo (hs.drop i) i r))
  | 0, i, r, h => by
    have : i = 8 := by omega
    subst this
    rw [List.drop_eq_nil_of_le (by omega)]
    exact loopOk_out g_out (by show Exit.exit 0 ≠ Exit.normal; simp)
  | k + 1, i, r, h => by
    have hlt : i < hs.length := by omega
    have h1 := g_go (c := c) (List.getElem?_eq_getElem hlt) hlt (by omega) r
    rw [List.drop_eq_getElem_cons hlt]
    simp only [headsGo]
    cases hq : hstep hs[i] i r with
    | none => rw [hq] at h1; exact loopOk_out h1 (by show Exit.ret ≠ Exit.normal; simp)
    | some r' =>
      rw [hq] at h1
      simp only [Q16] at h1
      rw [show (i : Int) + 1 = ((i + 1 : Nat) : Int) by push_cast; rfl, show W ((i + 1 : Nat) : Int) = ((i + 1 : Nat) : Int) from wrap_nat (by omega)] at h1
      exact loop_step h1 (g_loop h8 k (i + 1) _ (by omega))
termination_by k => k
theorem rheads_0 {hs : List Pt} {c : Nat} : Memo.Ok Try.prog ⟨16, 1, [hv 0 hs.length c], [(0, pcs hs)], .bool (headsS hs), [], 1⟩ := by
  have hS : En.smallH 1 [(0, pcs hs)] = true := by simp [En.smallH, small_avL (pcs_av hs)]
  unfold headsS
  cases hp : ((hs.length : Int) != 8) with
  | true => exact memo_pure (hs := [(7, .val (.bool ((hs.length : Int) != 8)) (.bool true))]) (ch := []) 2 (evk 50) special ⟨congrArg Value.bool hp, trivial⟩ trivial (by kernel_rfl) hS (by kernel_rfl)
  | false =>
    have h8 : hs.length = 8 := by rw [bne_eq_false_iff_eq] at hp; omega
    have hlo := g_loop (c := c) h8 8 0 0 (by omega)
    rw [List.drop_zero] at hlo
    cases hg : headsGo hs 0 0 with
    | none =>
      rw [hg] at hlo
      exact memo_pure (hs := [(7, .val (.bool ((hs.length : Int) != 8)) (.bool false))]) (ch := [⟨5, none, .loop (lp Try.prog 16 5), T16 hs.length c 0 0, [], H1 (pcs hs), 2, _, true⟩]) 2 (evk 50) special ⟨congrArg Value.bool hp, trivial⟩ ⟨codeOk_loop hlo, trivial⟩ (by kernel_rfl) hS (by kernel_rfl)
    | some r =>
      rw [hg] at hlo
      have key2 : ∀ q, decide (r ≤ 1) = q → Memo.Ok Try.prog ⟨16, 1, [hv 0 hs.length c], [(0, pcs hs)], .bool q, [], 1⟩ := by
        intro q hq
        cases q <;> exact memo_pure (hs := [(7, .val (.bool ((hs.length : Int) != 8)) (.bool false)), (41, .val (.bool (decide (r ≤ 1))) (.bool _))]) (ch := [⟨5, none, .loop (lp Try.prog 16 5), T16 hs.length c 0 0, [], H1 (pcs hs), 2, _, true⟩]) 2 (evk 50) special ⟨congrArg Value.bool hp, congrArg Value.bool hq, trivial⟩ ⟨codeOk_loop hlo, trivial⟩ (by kernel_rfl) hS (by kernel_rfl)
      have h3 := key2 _ rfl
      have e : (!false && fewR (some r)) = decide (r ≤ 1) := by
        rw [Bool.eq_iff_iff]
        simp only [fewR, Bool.not_false, Bool.true_and, Bool.not_eq_true', decide_eq_false_iff_not, decide_eq_true_eq]
        omega
      rw [e]
      exact h3
theorem rheads_m {hs : List Pt} {c : Nat} {p : Bool} (h : headsS hs = p) (b nx : Nat) : Memo.Ok Try.prog ⟨16, nx, [hv b hs.length c], [(b, pcs hs)], .bool p, [], nx⟩ :=
  memo_blk (h ▸ rheads_0) (pcs_av hs) b nx (by kernel_rfl) rfl rfl
/-! ### want -/
theorem want_0 (X : Cx) (t : Int) : Memo.Ok Try.prog ⟨19, 2, [X.lv, X.hv 1, .int .i64 t], X.V 1, .int .i64 (errC X t), [], 2⟩ := by
  unfold errC lateS
  have key : ∀ p1 p2 p3 p4, lineX X = p1 → headsS X.hs = p2 → decide (t < 0) = p3 → decide (t > 549755813888) = p4 → Memo.Ok Try.prog ⟨19, 2, [X.lv, X.hv 1, .int .i64 t], X.V 1, .int .i64 (bif p1 then (bif p2 then (bif p3 || p4 then 2 else 0) else 470) else 471), [], 2⟩ := by
    intro p1 p2 p3 p4 h1 h2 h3 h4
    have m1 := rline_m (c := X.c) X.hE h1 3
    have m2 := rheads_m (c := X.k) h2 1 3
    cases p1
    · exact memo_pure (hs := [(3, .frz), (8, .call _)]) (ch := []) 3 (evk 50) special ⟨trivial, m1, trivial⟩ trivial (by kernel_rfl) (X.smallH 2 1) (by kernel_rfl)
    · cases p2
      · exact memo_pure (hs := [(3, .frz), (8, .call _), (11, .call _)]) (ch := []) 3 (evk 50) special ⟨trivial, m1, m2, trivial⟩ trivial (by kernel_rfl) (X.smallH 2 1) (by kernel_rfl)
      · cases p3 <;> cases p4 <;>
          exact memo_pure (hs := [(3, .frz), (8, .call _), (11, .call _), (14, .val (.bool (decide (t < 0))) (.bool _)), (17, .val (.bool (decide (t > 549755813888))) (.bool _))]) (ch := []) 3 (evk 50) special ⟨trivial, m1, m2, congrArg Value.bool h3, congrArg Value.bool h4, trivial⟩ trivial (by kernel_rfl) (X.smallH 2 1) (by kernel_rfl)
  exact key _ _ _ _ rfl rfl rfl rfl
theorem want_m (X : Cx) (t : Int) {e : Int} (h : errC X t = e) (b nx : Nat) : Memo.Ok Try.prog ⟨19, nx, [X.lv, X.hv (b + 1), .int .i64 t], X.V (b + 1), .int .i64 e, [], nx⟩ :=
  X.mv (h ▸ want_0 X t) b nx (by kernel_rfl) rfl rfl
theorem wantN (c n k : Nat) (cyc per sh t : Int) (b nx : Nat) : Memo.Ok Try.prog ⟨19, nx, [lvN c cyc per sh, hv b n k, .int .i64 t], [], .int .i64 471, [], nx⟩ := by
  have m1 := rlineN c cyc per sh 2
  have : Memo.Ok Try.prog ⟨19, 1, [lvN c cyc per sh, hv 0 n k, .int .i64 t], [], .int .i64 471, [], 1⟩ :=
    memo_pure (hs := [(8, .call _)]) (ch := []) 2 (evk 50) special ⟨m1, trivial⟩ trivial (by kernel_rfl) rfl (by kernel_rfl)
  exact memo_no this b nx (by kernel_rfl) rfl rfl
end Go.Proofs.Ytjconcfkpgkbkaa.choose
