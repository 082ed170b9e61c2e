/- Contracts: choose (layer 37): CheckLine, CheckHeads, check. -/
import Derived.Test.YtjconcfkpgkbkaaChE
namespace Go.Proofs.Ytjconcfkpgkbkaa.choose
open Go Go.En
set_option linter.unusedVariables false

abbrev pcs (l : List Pt) : List Value := cellsOfL Pt.cells l
theorem pcs_av (l : List Pt) : avL (pcs l) = true := avL_cellsOfL (fun _ => rfl) l
theorem u27 : Try.prog.underlying 27 = some (.slice 57) := by kernel_rfl
theorem z57 : szIs Try.prog 57 7 true = true := by kernel_rfl
theorem z4 : szIs Try.prog 4 1 false = true := by kernel_rfl
theorem ix27 {b n c i : Nat} (h : i < n) : doIndexAddr Try.prog 27 (.slice (some ⟨b, 0, none⟩) n c) (.int .i64 i) = some (.pointer (some ⟨b, 0 + i * 7, none⟩)) := Sl.ix' (.inr rfl) u27 z57 h
theorem ld57 {b i : Nat} {hs : List Pt} {x : Pt} {ro : Bool} (h : hs[i]? = some x) : doLoad Try.prog [(b, .cells (pcs hs) ro)] 57 (.pointer (some ⟨b, 0 + i * 7, none⟩)) = some x.v := ldN z57 rfl (cellsOfL_get (f := Pt.cells) (s := 7) (fun _ => rfl) h)
theorem ldL {b i : Nat} {hs : List Pt} {x : Pt} {ro : Bool} (h : hs[i]? = some x) : doLoad Try.prog [(b, .cells (pcs hs) ro)] 3 (.pointer (some ⟨b, 0 + i * 7 + 5, none⟩)) = some (.int .i64 x.left) := ld1 z3 (cellsOfL_get (f := Pt.cells) (s := 7) (fun _ => rfl) h 5 _ rfl)
def zp : Pt := ⟨⟨0, 0, 0, 0, 0⟩, 0, false⟩
def lc (n c : Nat) (cyc per sh : Int) : List Value := [esl n c, .int .i64 cyc, .int .i64 per, .int .i64 sh]
def lv (n c : Nat) (cyc per sh : Int) : Value := .agg ⟨lc n c cyc per sh⟩
def lv0 (cyc per sh : Int) : Value := .agg #[.slice none 0 0, .int .i64 cyc, .int .i64 per, .int .i64 sh]
def hv (b n c : Nat) : Value := .slice (some ⟨b, 0, none⟩) n c
def lineS (p : Bool) (per sh : Int) : Bool := p && !(decide (per < 1) || (decide (per > 1000) || (decide (sh < -1000) || decide (sh > 1000))))
theorem line_0 {es : List Ent} {c : Nat} {cyc per sh : Int} (hn : es.length ≤ 1000) : Memo.Ok Try.prog ⟨13, 1, [lv es.length c cyc per sh], [(0, ecs es)], .int .i64 (bif lineS (chkG es cyc) per sh then 0 else 471), [], 1⟩ := by
  have hS : En.smallH 1 [(0, ecs es)] = true := by simp [En.smallH, small_avL (ecs_av es)]
  unfold lineS
  have key : ∀ p p1 p2 p3 p4, chkG es cyc = p → decide (per < 1) = p1 → decide (per > 1000) = p2 → decide (sh < -1000) = p3 → decide (sh > 1000) = p4 →
      Memo.Ok Try.prog ⟨13, 1, [lv es.length c cyc per sh], [(0, ecs es)], .int .i64 (bif p && !(p1 || (p2 || (p3 || p4))) then 0 else 471), [], 1⟩ := by
    intro p p1 p2 p3 p4 h h1 h2 h3 h4
    have mc := gcheck_m (c := c) hn h 2
    cases p
    · exact memo_pure (hs := [(1, .frz), (5, .call _)]) (ch := []) 2 (evk 50) special ⟨trivial, mc, trivial⟩ trivial (by kernel_rfl) hS (by kernel_rfl)
    · cases p1 <;> cases p2 <;> cases p3 <;> cases p4 <;>
        exact memo_pure (hs := [(1, .frz), (5, .call _), (10, .val (.bool (decide (per < 1))) (.bool _)), (15, .val (.bool (decide (per > 1000))) (.bool _)), (20, .val (.bool (decide (sh < -1000))) (.bool _)), (25, .val (.bool (decide (sh > 1000))) (.bool _))]) (ch := []) 2 (evk 50) special
          ⟨trivial, mc, congrArg Value.bool h1, congrArg Value.bool h2, congrArg Value.bool h3, congrArg Value.bool h4, trivial⟩ trivial (by kernel_rfl) hS (by kernel_rfl)
  exact key _ _ _ _ _ rfl rfl rfl rfl rfl
theorem line_m {es : List Ent} {c : Nat} {cyc per sh : Int} (hn : es.length ≤ 1000) {p : Bool} (h : lineS (chkG es cyc) per sh = p) (nx : Nat) : Memo.Ok Try.prog ⟨13, nx, [lv es.length c cyc per sh], [(0, ecs es)], .int .i64 (bif p then 0 else 471), [], nx⟩ :=
  memo_blk (h ▸ line_0 hn) (ecs_av es) 0 nx (by kernel_rfl) rfl rfl
theorem line_nil (cyc per sh : Int) : Memo.Ok Try.prog ⟨13, 0, [lv0 cyc per sh], [], .int .i64 471, [], 0⟩ := by
  have mc := memo_any (gcheck_nil cyc) 1 (by kernel_rfl) rfl rfl
  exact memo_pure (hs := [(5, .call _)]) (ch := []) 1 (evk 50) special ⟨mc, trivial⟩ trivial (by kernel_rfl) rfl (by kernel_rfl)

/-! ### CheckHeads -/
theorem pt_at {hs : List Pt} {i : Nat} (h : i < hs.length) : hs[i]? = some (hs.getD i zp) := by
  rw [List.getD_eq_getElem?_getD, List.getElem?_eq_getElem h]; rfl
def T15 (n c : Nat) (r i : Int) : List Value := [J, J, J, .int .i64 r] ++ List.replicate 5 J ++ [hv 0 n c, .int .i64 n, .int .i64 i] ++ List.replicate 24 J
def TR15 (r : Int) : List Value := [J, J, J, .int .i64 r] ++ List.replicate 32 J
def TE15 : List Value := [J, J, .int .i64 470] ++ List.replicate 33 J
def H1 (cs : List Value) : Hp := [(0, .cells cs true)]
theorem H1_below {cs : List Value} (h : avL cs = true) {n : Nat} (hn : 1 ≤ n) : hpBelow n (H1 cs) = true := by
  have a0 : tidyB n (.cells cs true) = true := small_avL h
  simp only [H1, hpBelow, a0]
  simp; omega
def hbad (p : Pt) (i : Nat) : Bool := !partC p || (p.it.cls != (i : Int))
def Q15 (hs : List Pt) (n c : Nat) (i : Int) : Option Int → Res
  | some r => ⟨.normal, T15 n c r (W (i + 1)), [], H1 (pcs hs), 3⟩
  | none => ⟨.ret, TE15, [], H1 (pcs hs), 3⟩
def hstep (p : Pt) (i : Nat) (r : Int) : Option Int := bif eqPt p zp then some r else bif hbad p i then none else some (bif p.rest then W (r + 1) else r)
theorem h_go {hs : List Pt} {n c i : Nat} {x : Pt} (hi : hs[i]? = some x) (hlt : i < n) (r : Int) :
    CodeOk Try.prog none (lp Try.prog 15 5) (T15 n c r i) [] (H1 (pcs hs)) 3 (Q15 hs n c i (hstep x i r)) := by
  have hd : decide ((i : Int) < n) = true := decide_eq_true (by omega)
  have l1 := ld57 (b := 0) (ro := true) hi
  unfold hstep hbad
  have key : ∀ q1 q2 q3 q4, eqPt x zp = q1 → partC x = q2 → (x.it.cls != (i : Int)) = q3 → x.rest = q4 → CodeOk Try.prog none (lp Try.prog 15 5) (T15 n c r i) [] (H1 (pcs hs)) 3 (Q15 hs n c i (bif q1 then some r else bif !q2 || q3 then none else some (bif q4 then W (r + 1) else r))) := by
    intro q1 q2 q3 q4 h1 h2 h3 h4
    have e1 := fun xo yo => h1 ▸ (eql_pt x zp xo yo).1
    have m2 := checkPart_m x h2 4
    obtain ⟨⟨a, b, cl, d, e⟩, l, rr⟩ := x
    simp only at h3 h4
    subst h4
    cases q1
    · cases q2
      · exact code_at (hs := [(12, .val (.bool (decide ((i : Int) < n))) (.bool true)), (14, .ix 27 (hv 0 n c) (.int .i64 i) _), (15, .ld 57 _ 0 (pcs hs) true _), (18, .bin .eql 57 _ _ _), (20, .call _)]) (ch := []) (evk 50) special
          ⟨congrArg Value.bool hd, ix27 hlt, ⟨l1, _, rfl⟩, e1, m2, trivial⟩ trivial (by kernel_rfl) (H1_below (pcs_av hs) (by omega)) (H1_below (pcs_av hs) (by omega)) (by kernel_rfl)
      · cases q3
        · cases rr <;> exact code_at (hs := [(12, .val (.bool (decide ((i : Int) < n))) (.bool true)), (14, .ix 27 (hv 0 n c) (.int .i64 i) _), (15, .ld 57 _ 0 (pcs hs) true _), (18, .bin .eql 57 _ _ _), (20, .call _), (27, .val (.bool (cl != (i : Int))) (.bool _))]) (ch := []) (evk 50) special
            ⟨congrArg Value.bool hd, ix27 hlt, ⟨l1, _, rfl⟩, e1, m2, congrArg Value.bool h3, trivial⟩ trivial (by kernel_rfl) (H1_below (pcs_av hs) (by omega)) (H1_below (pcs_av hs) (by omega)) (by kernel_rfl)
        · exact code_at (hs := [(12, .val (.bool (decide ((i : Int) < n))) (.bool true)), (14, .ix 27 (hv 0 n c) (.int .i64 i) _), (15, .ld 57 _ 0 (pcs hs) true _), (18, .bin .eql 57 _ _ _), (20, .call _), (27, .val (.bool (cl != (i : Int))) (.bool _))]) (ch := []) (evk 50) special
            ⟨congrArg Value.bool hd, ix27 hlt, ⟨l1, _, rfl⟩, e1, m2, congrArg Value.bool h3, trivial⟩ trivial (by kernel_rfl) (H1_below (pcs_av hs) (by omega)) (H1_below (pcs_av hs) (by omega)) (by kernel_rfl)
    · exact code_at (hs := [(12, .val (.bool (decide ((i : Int) < n))) (.bool true)), (14, .ix 27 (hv 0 n c) (.int .i64 i) _), (15, .ld 57 _ 0 (pcs hs) true _), (18, .bin .eql 57 _ _ _)]) (ch := []) (evk 50) special
          ⟨congrArg Value.bool hd, ix27 hlt, ⟨l1, _, rfl⟩, e1, trivial⟩ trivial (by kernel_rfl) (H1_below (pcs_av hs) (by omega)) (H1_below (pcs_av hs) (by omega)) (by kernel_rfl)
  exact key _ _ _ _ rfl rfl rfl rfl
theorem h_out {hs : List Pt} {n c : Nat} {r : Int} : CodeOk Try.prog none (lp Try.prog 15 5) (T15 n c r n) [] (H1 (pcs hs)) 3 ⟨.exit 0, TR15 r, [], H1 (pcs hs), 3⟩ := by
  have hd : decide ((n : Int) < n) = false := decide_eq_false (by omega)
  exact code_at (hs := [(12, .val (.bool (decide ((n : Int) < n))) (.bool false))]) (ch := []) (evk 50) special ⟨congrArg Value.bool hd, trivial⟩ trivial (by kernel_rfl) (H1_below (pcs_av hs) (by omega)) (H1_below (pcs_av hs) (by omega)) (by kernel_rfl)
def headsGo : List Pt → Nat → Int → Option Int
  | [], _, r => some r
  | p :: l, i, r => match hstep p i r with
    | none => none
    | some r' => headsGo l (i + 1) r'
def F15 (hs : List Pt) : Option Int → Res
  | some r => ⟨.exit 0, TR15 r, [], H1 (pcs hs), 3⟩
  | none => ⟨.ret, TE15, [], H1 (pcs hs), 3⟩
theorem h_loop {hs : List Pt} {c : Nat} (h1000 : hs.length ≤ 1000) : ∀ (k i : Nat) (r : Int), i + k = hs.length → LoopOk Try.prog none (lp Try.prog 15 5) (T15 hs.length c r i) [] (H1 (pcs hs)) 3 (F15 hs (headsGo (hs.drop i) i r))
  | 0, i, r, h => by
    have : i = hs.length := by omega
    subst this
    rw [List.drop_length]
    exact loopOk_out h_out (by show Exit.exit 0 ≠ Exit.normal; simp)
  | k + 1, i, r, h => by
    have hlt : i < hs.length := by omega
    have h1 := h_go (c := c) (List.getElem?_eq_getElem hlt) hlt r
    rw [List.drop_eq_getElem_cons hlt]
    simp only [headsGo]
    cases hq : hstep hs[i] i r with
    | none => rw [hq] at h1; exact loopOk_out h1 (by show Exit.ret ≠ Exit.normal; simp)
    | some r' =>
      rw [hq] at h1
      simp only [Q15] at h1
      rw [show (i : Int) + 1 = ((i + 1 : Nat) : Int) by push_cast; rfl, show W ((i + 1 : Nat) : Int) = ((i + 1 : Nat) : Int) from wrap_nat (by omega)] at h1
      exact loop_step h1 (h_loop h1000 k (i + 1) _ (by omega))
termination_by k => k
def fewR : Option Int → Bool
  | none => false
  | some r => !decide (r > 1)
def headsS (hs : List Pt) : Bool := !((hs.length : Int) != 8) && fewR (headsGo hs 0 0)
theorem heads_0 {hs : List Pt} {c : Nat} (h1000 : hs.length ≤ 1000) : Memo.Ok Try.prog ⟨15, 1, [hv 0 hs.length c], [(0, pcs hs)], .int .i64 (bif headsS hs then 0 else 470), [], 1⟩ := by
  have hS : En.smallH 1 [(0, pcs hs)] = true := by simp [En.smallH, small_avL (pcs_av hs)]
  have hlo := h_loop (c := c) h1000 hs.length 0 0 (by omega)
  rw [List.drop_zero] at hlo
  unfold headsS
  have key : ∀ p g, ((hs.length : Int) != 8) = p → headsGo hs 0 0 = g → Memo.Ok Try.prog ⟨15, 1, [hv 0 hs.length c], [(0, pcs hs)], .int .i64 (bif !p && fewR g then 0 else 470), [], 1⟩ := by
    intro p g hp hg
    rw [hg] at hlo
    cases p
    · cases g with
      | none => exact memo_pure (hs := [(8, .val (.bool ((hs.length : Int) != 8)) (.bool false))]) (ch := [⟨5, none, .loop (lp Try.prog 15 5), T15 hs.length c 0 0, [], H1 (pcs hs), 3, _, true⟩]) 3 (evk 50) special ⟨congrArg Value.bool hp, trivial⟩ ⟨codeOk_loop hlo, trivial⟩ (by kernel_rfl) hS (by kernel_rfl)
      | some r =>
        have key2 : ∀ q, decide (r > 1) = q → Memo.Ok Try.prog ⟨15, 1, [hv 0 hs.length c], [(0, pcs hs)], .int .i64 (bif !false && !q then 0 else 470), [], 1⟩ := by
          intro q hq
          cases q <;> exact memo_pure (hs := [(8, .val (.bool ((hs.length : Int) != 8)) (.bool false)), (35, .val (.bool (decide (r > 1))) (.bool _))]) (ch := [⟨5, none, .loop (lp Try.prog 15 5), T15 hs.length c 0 0, [], H1 (pcs hs), 3, _, true⟩]) 3 (evk 50) special ⟨congrArg Value.bool hp, congrArg Value.bool hq, trivial⟩ ⟨codeOk_loop hlo, trivial⟩ (by kernel_rfl) hS (by kernel_rfl)
        exact key2 _ rfl
    · exact memo_pure (hs := [(8, .val (.bool ((hs.length : Int) != 8)) (.bool true))]) (ch := []) 2 (evk 50) special ⟨congrArg Value.bool hp, trivial⟩ trivial (by kernel_rfl) hS (by kernel_rfl)
  exact key _ _ rfl rfl
theorem heads_m {hs : List Pt} {c : Nat} (h1000 : hs.length ≤ 1000) {p : Bool} (h : headsS hs = p) (b nx : Nat) : Memo.Ok Try.prog ⟨15, nx, [hv b hs.length c], [(b, pcs hs)], .int .i64 (bif p then 0 else 470), [], nx⟩ :=
  memo_blk (h ▸ heads_0 h1000) (pcs_av hs) b nx (by kernel_rfl) rfl rfl
end Go.Proofs.Ytjconcfkpgkbkaa.choose
