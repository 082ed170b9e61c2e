/- Contracts: choose (layer 37): may, May. -/
import Derived.Test.YtjconcfkpgkbkaaChG
namespace Go.Proofs.Ytjconcfkpgkbkaa.choose
open Go Go.En
set_option linter.unusedVariables false

theorem full_m (X : Cx) {i : Nat} (hi : i < X.hs.length) {p : Bool} (h : fullS X i = p) (b nx : Nat) : Memo.Ok Try.prog ⟨45, nx, [X.vv (b + 1), .int .i64 i], X.V (b + 1), .bool p, [], nx⟩ :=
  X.mv (h ▸ full_0 X hi) b nx (by kernel_rfl) rfl rfl
theorem free_m (X : Cx) {i : Nat} {p : Bool} (h : freeS X i = p) (b nx : Nat) : Memo.Ok Try.prog ⟨54, nx, [X.vv (b + 1), .int .i64 i], X.V (b + 1), .bool p, [], nx⟩ :=
  X.mv (h ▸ free_0 X i) b nx (by kernel_rfl) rfl rfl
theorem fits_m (X : Cx) (hk : chkG X.es X.cyc = true) {i : Nat} (hi : i < X.hs.length) {t : Int} {p : Bool} (h : fitsX X i t = p) (b nx : Nat) : Memo.Ok Try.prog ⟨46, nx, [X.vv (b + 1), .int .i64 i, .int .i64 t], X.V (b + 1), .bool p, [], nx⟩ :=
  X.mv (h ▸ fits_0 X hk hi t) b nx (by kernel_rfl) rfl rfl
/-! ### may: its three conditions are functions that look at its variables -/
def V35 (X : Cx) (i : Nat) (t : Int) : List (Nat × List Value) := [(4, [.int .i64 t]), (3, [.int .i64 i]), (2, X.vc 1), (0, ecs X.es), (1, pcs X.hs)]
theorem V35_small (X : Cx) (i : Nat) (t : Int) : En.smallH 6 (V35 X i t) = true := by
  have a : En.smallL (En.small 6 5) (X.vc 1) = true := by kernel_rfl
  simp [V35, En.smallH, small_avL (ecs_av _), small_avL (pcs_av _), a]
  exact ⟨rfl, rfl⟩
theorem c1 (X : Cx) {i : Nat} (hi : i < X.hs.length) (t : Int) {p : Bool} (h : fullS X i = p) : Memo.Ok Try.prog ⟨52, 6, [pt 2, pt 3], V35 X i t, .bool p, [], 6⟩ := by
  have m := full_m X hi h 0 6
  exact memo_pure (hs := [(5, .call _)]) (ch := []) 6 (evk 50) special ⟨m, trivial⟩ trivial (by kernel_rfl) (V35_small X i t) (by kernel_rfl)
theorem c2 (X : Cx) {i : Nat} (t : Int) {p : Bool} (h : freeS X i = p) : Memo.Ok Try.prog ⟨53, 6, [pt 2, pt 3], V35 X i t, .bool p, [], 6⟩ := by
  have m := free_m X h 0 6
  exact memo_pure (hs := [(5, .call _)]) (ch := []) 6 (evk 50) special ⟨m, trivial⟩ trivial (by kernel_rfl) (V35_small X i t) (by kernel_rfl)
theorem c3 (X : Cx) (hk : chkG X.es X.cyc = true) {i : Nat} (hi : i < X.hs.length) (t : Int) {p : Bool} (h : fitsX X i t = p) : Memo.Ok Try.prog ⟨55, 6, [pt 2, pt 3, pt 4], V35 X i t, .bool p, [], 6⟩ := by
  have m := fits_m X hk hi h 0 6
  exact memo_pure (hs := [(7, .call _)]) (ch := []) 6 (evk 50) special ⟨m, trivial⟩ trivial (by kernel_rfl) (V35_small X i t) (by kernel_rfl)
def fs3 : Value := .agg #[.func (.func 52) #[] #[pt 2, pt 3], .func (.func 53) #[] #[pt 2, pt 3], .func (.func 55) #[] #[pt 2, pt 3, pt 4]]
def T35 (k : Int) : List Value := [J, J, J, J, J, J, .bool false] ++ List.replicate 7 J ++ [fs3, .int .i64 k] ++ List.replicate 6 J
def TJ35 : List Value := [J, J, J, J, J, J, .bool false] ++ List.replicate 15 J
theorem H35_below (X : Cx) (i : Nat) (t : Int) : hpBelow 6 (roHp (V35 X i t)) = true := roHp_below (by kernel_rfl) (V35_small X i t)
def O35 (X : Cx) (i : Nat) (t : Int) (k : Int) : Bool → Res
  | true => ⟨.normal, T35 k, [], roHp (V35 X i t), 6⟩
  | false => ⟨.ret, TJ35, [], roHp (V35 X i t), 6⟩
section
variable (X : Cx) (hk : chkG X.es X.cyc = true) {i : Nat} (hi : i < X.hs.length) (t : Int)
include hi in
theorem r35_0 {p : Bool} (h : fullS X i = p) : CodeOk Try.prog none (lp Try.prog 35 3) (T35 0) [] (roHp (V35 X i t)) 6 (O35 X i t 1 p) := by
  have m := c1 X hi t h
  cases p <;> exact code_at (hs := [(19, .call _)]) (ch := []) (evk 50) special ⟨m, trivial⟩ trivial (by kernel_rfl) (H35_below X i t) (H35_below X i t) (by kernel_rfl)
theorem r35_1 {p : Bool} (h : freeS X i = p) : CodeOk Try.prog none (lp Try.prog 35 3) (T35 1) [] (roHp (V35 X i t)) 6 (O35 X i t 2 p) := by
  have m := c2 X t h
  cases p <;> exact code_at (hs := [(19, .call _)]) (ch := []) (evk 50) special ⟨m, trivial⟩ trivial (by kernel_rfl) (H35_below X i t) (H35_below X i t) (by kernel_rfl)
include hk hi in
theorem r35_2 {p : Bool} (h : fitsX X i t = p) : CodeOk Try.prog none (lp Try.prog 35 3) (T35 2) [] (roHp (V35 X i t)) 6 (O35 X i t 3 p) := by
  have m := c3 X hk hi t h
  cases p <;> exact code_at (hs := [(19, .call _)]) (ch := []) (evk 50) special ⟨m, trivial⟩ trivial (by kernel_rfl) (H35_below X i t) (H35_below X i t) (by kernel_rfl)
theorem r35_3 : CodeOk Try.prog none (lp Try.prog 35 3) (T35 3) [] (roHp (V35 X i t)) 6 ⟨.exit 0, TJ35, [], roHp (V35 X i t), 6⟩ :=
  code_at (hs := []) (ch := []) (evk 50) special trivial trivial (by kernel_rfl) (H35_below X i t) (H35_below X i t) (by kernel_rfl)
def mayS (X : Cx) (i : Nat) (t : Int) : Bool := fullS X i && (freeS X i && fitsX X i t)
def F35 (X : Cx) (i : Nat) (t : Int) : Bool → Res
  | true => ⟨.exit 0, TJ35, [], roHp (V35 X i t), 6⟩
  | false => ⟨.ret, TJ35, [], roHp (V35 X i t), 6⟩
include hk hi in
theorem l35 : LoopOk Try.prog none (lp Try.prog 35 3) (T35 0) [] (roHp (V35 X i t)) 6 (F35 X i t (mayS X i t)) := by
  unfold mayS
  have ne : Exit.ret ≠ Exit.normal := by simp
  cases h1 : fullS X i with
  | false => exact loopOk_out (r35_0 X hi t h1) ne
  | true =>
    refine loop_step (r35_0 X hi t h1) ?_
    cases h2 : freeS X i with
    | false => exact loopOk_out (r35_1 X t h2) ne
    | true =>
      refine loop_step (r35_1 X t h2) ?_
      cases h3 : fitsX X i t with
      | false => exact loopOk_out (r35_2 X hk hi t h3) ne
      | true => exact loop_step (r35_2 X hk hi t h3) (loopOk_out (r35_3 X t) (by show Exit.exit 0 ≠ Exit.normal; simp))
include hk hi in
theorem may_0 : Memo.Ok Try.prog ⟨35, 2, [X.vv 1, .int .i64 i, .int .i64 t], X.V 1, .bool (mayS X i t), [], 2⟩ := by
  have hlo := l35 X hk hi t
  generalize mayS X i t = g at hlo ⊢
  cases g <;> exact memo_pure (hs := [(3, .frz), (4, .frz), (5, .frz)]) (ch := [⟨3, none, .loop (lp Try.prog 35 3), T35 0, [], roHp (V35 X i t), 6, _, false⟩]) 6 (evk 50) special ⟨trivial, trivial, trivial, trivial⟩ ⟨codeOk_loop hlo, trivial⟩ (by kernel_rfl) (X.smallH 2 1) (by kernel_rfl)
end
theorem may_m (X : Cx) (hk : chkG X.es X.cyc = true) {i : Nat} (hi : i < X.hs.length) {t : Int} {p : Bool} (h : mayS X i t = p) (b nx : Nat) : Memo.Ok Try.prog ⟨35, nx, [X.vv (b + 1), .int .i64 i, .int .i64 t], X.V (b + 1), .bool p, [], nx⟩ :=
  X.mv (h ▸ may_0 X hk hi t) b nx (by kernel_rfl) rfl rfl
/-! ### May -/
theorem lineX_chk {X : Cx} (h : lineX X = true) : chkG X.es X.cyc = true := by
  unfold lineX lineS at h
  simp only [Bool.and_eq_true] at h
  exact h.1
theorem headsS_len {hs : List Pt} (h : headsS hs = true) : hs.length = 8 := by
  unfold headsS at h
  simp only [Bool.and_eq_true, Bool.not_eq_true', bne_eq_false_iff_eq] at h
  omega
theorem errC_ok {X : Cx} {t : Int} (h : errC X t = 0) : chkG X.es X.cyc = true ∧ X.hs.length = 8 ∧ 0 ≤ t ∧ t ≤ 549755813888 := by
  unfold errC at h
  cases h1 : lineX X with
  | false => rw [h1] at h; cases h
  | true =>
    cases h2 : headsS X.hs with
    | false => rw [h1, h2] at h; cases h
    | true =>
      cases h3 : lateS t with
      | true => rw [h1, h2, h3] at h; cases h
      | false =>
        unfold lateS at h3
        simp only [Bool.or_eq_false_iff, decide_eq_false_iff_not] at h3
        exact ⟨lineX_chk h1, headsS_len h2, by omega, by omega⟩
theorem MayE (X : Cx) (cls t : Int) {e : Int} (he : errC X t = e) (hne : (e != 0) = true) : Memo.Ok Try.prog ⟨17, 2, [X.lv, X.hv 1, .int .i64 cls, .int .i64 t], X.V 1, .tuple #[.bool false, .int .i64 e], [], 2⟩ := by
  have m1 := check_m X t he 0 3
  exact memo_pure (hs := [(4, .frz), (14, .call _), (16, .val (.bool (e != 0)) (.bool true))]) (ch := []) 3 (evk 50) special ⟨trivial, m1, congrArg Value.bool hne, trivial⟩ trivial (by kernel_rfl) (X.smallH 2 1) (by kernel_rfl)
theorem MayA (X : Cx) {cls t : Int} (he : errC X t = 0) (hc : cls < 0 ∨ cls ≥ 8) : Memo.Ok Try.prog ⟨17, 2, [X.lv, X.hv 1, .int .i64 cls, .int .i64 t], X.V 1, .tuple #[.bool false, .int .i64 2], [], 2⟩ := by
  have m1 := check_m X t he 0 3
  have key : ∀ p1 p2, decide (cls < 0) = p1 → decide (cls ≥ 8) = p2 → (p1 || p2) = true → Memo.Ok Try.prog ⟨17, 2, [X.lv, X.hv 1, .int .i64 cls, .int .i64 t], X.V 1, .tuple #[.bool false, .int .i64 2], [], 2⟩ := by
    intro p1 p2 h1 h2 h
    cases p1 <;> cases p2 <;> first
      | (cases h; done)
      | exact memo_pure (hs := [(4, .frz), (14, .call _), (19, .val (.bool (decide (cls < 0))) (.bool _)), (22, .val (.bool (decide (cls ≥ 8))) (.bool _))]) (ch := []) 3 (evk 50) special ⟨trivial, m1, congrArg Value.bool h1, congrArg Value.bool h2, trivial⟩ trivial (by kernel_rfl) (X.smallH 2 1) (by kernel_rfl)
  exact key _ _ rfl rfl (by simp; omega)
theorem MayY (X : Cx) {i : Nat} {t : Int} (he : errC X t = 0) (hi : i < 8) {p : Bool} (hp : mayS X i t = p) : Memo.Ok Try.prog ⟨17, 2, [X.lv, X.hv 1, .int .i64 i, .int .i64 t], X.V 1, .tuple #[.bool p, .int .i64 0], [], 2⟩ := by
  obtain ⟨h1, h2, _, _⟩ := errC_ok he
  have m1 := check_m X t he 0 3
  have m2 := may_m X h1 (by omega) hp 0 3
  have d1 : decide ((i : Int) < 0) = false := decide_eq_false (by omega)
  have d2 : decide ((i : Int) ≥ 8) = false := decide_eq_false (by omega)
  exact memo_pure (hs := [(4, .frz), (14, .call _), (19, .val (.bool (decide ((i : Int) < 0))) (.bool false)), (22, .val (.bool (decide ((i : Int) ≥ 8))) (.bool false)), (29, .call _)]) (ch := []) 3 (evk 50) special ⟨trivial, m1, congrArg Value.bool d1, congrArg Value.bool d2, m2, trivial⟩ trivial (by kernel_rfl) (X.smallH 2 1) (by kernel_rfl)
end Go.Proofs.Ytjconcfkpgkbkaa.choose
