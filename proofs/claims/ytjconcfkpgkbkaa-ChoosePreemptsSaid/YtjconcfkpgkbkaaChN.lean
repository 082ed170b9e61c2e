/- Contracts: choose (layer 37): Preempt. -/
import Derived.Test.YtjconcfkpgkbkaaChM
namespace Go.Proofs.Ytjconcfkpgkbkaa.choose
open Go Go.En
set_option linter.unusedVariables false

def badP (X : Cx) (o b t : Int) : Bool := decide (o < 84) || (decide (o > 1542) || (decide (b < 0) || (decide (b > t) || decide (t > W (b + W (o * X.per))))))
def quoW (X : Cx) (b t : Int) : Int := W ((W (W (W (t - b) + X.per) - 1)).tdiv X.per)
def kW (X : Cx) (b t : Int) : Int := if quoW X b t > 64 then quoW X b t else 64
def endW (X : Cx) (b k : Int) : Int := W (b + W (W (k + 24) * X.per))
def preV (g : Bool) (e r : Int) : Value := .tuple #[.int .i64 (bif g then e else 0), .int .i64 (bif g then r else 0), .int .i64 (bif g then 0 else 4)]
theorem PreE (X : Cx) (o b t : Int) {e : Int} (he : errC X t = e) (hne : (e != 0) = true) : Memo.Ok Try.prog ⟨24, 2, [X.lv, X.hv 1, .int .i64 o, .int .i64 b, .int .i64 t], X.V 1, .tuple #[.int .i64 0, .int .i64 0, .int .i64 e], [], 2⟩ := by
  have m1 := check_m X t he 0 5
  exact memo_pure (hs := [(20, .call _), (22, .val (.bool (e != 0)) (.bool true))]) (ch := []) 5 (evk 50) special ⟨m1, congrArg Value.bool hne, trivial⟩ trivial (by kernel_rfl) (X.smallH 2 1) (by kernel_rfl)
theorem PreA (X : Cx) {o b t : Int} (he : errC X t = 0) (hb : badP X o b t = true) : Memo.Ok Try.prog ⟨24, 2, [X.lv, X.hv 1, .int .i64 o, .int .i64 b, .int .i64 t], X.V 1, .tuple #[.int .i64 0, .int .i64 0, .int .i64 2], [], 2⟩ := by
  have m1 := check_m X t he 0 5
  unfold badP at hb
  have key : ∀ p1 p2 p3 p4 p5, decide (o < 84) = p1 → decide (o > 1542) = p2 → decide (b < 0) = p3 → decide (b > t) = p4 → decide (t > W (b + W (o * X.per))) = p5 → (p1 || (p2 || (p3 || (p4 || p5)))) = true →
      Memo.Ok Try.prog ⟨24, 2, [X.lv, X.hv 1, .int .i64 o, .int .i64 b, .int .i64 t], X.V 1, .tuple #[.int .i64 0, .int .i64 0, .int .i64 2], [], 2⟩ := by
    intro p1 p2 p3 p4 p5 h1 h2 h3 h4 h5 h
    cases p1
    · cases p2
      · cases p3
        · cases p4
          · cases p5
            · cases h
            · exact memo_pure (hs := [(20, .call _), (25, .val (.bool (decide (o < 84))) (.bool _)), (28, .val (.bool (decide (o > 1542))) (.bool _)), (32, .val (.bool (decide (b < 0))) (.bool _)), (37, .val (.bool (decide (b > t))) (.bool _)), (47, .val (.bool (decide (t > W (b + W (o * X.per))))) (.bool _))]) (ch := []) 5 (evk 50) special ⟨m1, congrArg Value.bool h1, congrArg Value.bool h2, congrArg Value.bool h3, congrArg Value.bool h4, congrArg Value.bool h5, trivial⟩ trivial (by kernel_rfl) (X.smallH 2 1) (by kernel_rfl)
          · exact memo_pure (hs := [(20, .call _), (25, .val (.bool (decide (o < 84))) (.bool _)), (28, .val (.bool (decide (o > 1542))) (.bool _)), (32, .val (.bool (decide (b < 0))) (.bool _)), (37, .val (.bool (decide (b > t))) (.bool _))]) (ch := []) 5 (evk 50) special ⟨m1, congrArg Value.bool h1, congrArg Value.bool h2, congrArg Value.bool h3, congrArg Value.bool h4, trivial⟩ trivial (by kernel_rfl) (X.smallH 2 1) (by kernel_rfl)
        · exact memo_pure (hs := [(20, .call _), (25, .val (.bool (decide (o < 84))) (.bool _)), (28, .val (.bool (decide (o > 1542))) (.bool _)), (32, .val (.bool (decide (b < 0))) (.bool _))]) (ch := []) 5 (evk 50) special ⟨m1, congrArg Value.bool h1, congrArg Value.bool h2, congrArg Value.bool h3, trivial⟩ trivial (by kernel_rfl) (X.smallH 2 1) (by kernel_rfl)
      · exact memo_pure (hs := [(20, .call _), (25, .val (.bool (decide (o < 84))) (.bool _)), (28, .val (.bool (decide (o > 1542))) (.bool _))]) (ch := []) 5 (evk 50) special ⟨m1, congrArg Value.bool h1, congrArg Value.bool h2, trivial⟩ trivial (by kernel_rfl) (X.smallH 2 1) (by kernel_rfl)
    · exact memo_pure (hs := [(20, .call _), (25, .val (.bool (decide (o < 84))) (.bool _))]) (ch := []) 5 (evk 50) special ⟨m1, congrArg Value.bool h1, trivial⟩ trivial (by kernel_rfl) (X.smallH 2 1) (by kernel_rfl)
  exact key _ _ _ _ _ rfl rfl rfl rfl rfl hb
/-- Whether the fragment is preempted. -/
def preS (X : Cx) (o k e : Int) : Bool := !decide (W (o - k) < 64) && cutS X e
theorem PreY (X : Cx) {o b t : Int} (he : errC X t = 0) (hper : X.per ≠ 0) (hb : badP X o b t = false) {g : Bool} (hg : preS X o (kW X b t) (endW X b (kW X b t)) = g) :
    Memo.Ok Try.prog ⟨24, 2, [X.lv, X.hv 1, .int .i64 o, .int .i64 b, .int .i64 t], X.V 1, preV g (endW X b (kW X b t)) (restW o (kW X b t)), [], 2⟩ := by
  obtain ⟨hc, h8, _, _⟩ := errC_ok he
  have m1 := check_m X t he 0 5
  unfold badP at hb
  simp only [Bool.or_eq_false_iff] at hb
  obtain ⟨h1, h2, h3, h4, h5⟩ := hb
  have b1 := fun xo yo => quo_bin (P := Try.prog) (t := 3) (k := .i64) (a := W (W (W (t - b) + X.per) - 1)) hper xo yo
  have hmx : (if quoW X b t > 64 then quoW X b t else 64) = kW X b t := rfl
  have key : ∀ k, kW X b t = k → preS X o k (endW X b k) = g → Memo.Ok Try.prog ⟨24, 2, [X.lv, X.hv 1, .int .i64 o, .int .i64 b, .int .i64 t], X.V 1, preV g (endW X b k) (restW o k), [], 2⟩ := by
    intro k hk hg
    rw [hk] at hmx
    unfold preS at hg
    cases h6 : decide (W (o - k) < 64) with
    | true =>
      rw [h6] at hg
      subst hg
      exact memo_pure (hs := [(20, .call _), (25, .val (.bool (decide (o < 84))) (.bool false)), (28, .val (.bool (decide (o > 1542))) (.bool false)), (32, .val (.bool (decide (b < 0))) (.bool false)), (37, .val (.bool (decide (b > t))) (.bool false)), (47, .val (.bool (decide (t > W (b + W (o * X.per))))) (.bool false)), (63, .bin .quo 3 _ _ _), (64, .val (.int .i64 (if quoW X b t > 64 then quoW X b t else 64)) (.int .i64 k)), (68, .val (.bool (decide (W (o - k) < 64))) (.bool true))]) (ch := []) 8 (evk 50) special
        ⟨m1, congrArg Value.bool h1, congrArg Value.bool h2, congrArg Value.bool h3, congrArg Value.bool h4, congrArg Value.bool h5, b1, congrArg (Value.int .i64) hmx, congrArg Value.bool h6, trivial⟩ trivial (by kernel_rfl) (X.smallH 2 1) (by kernel_rfl)
    | false =>
      rw [h6] at hg
      have hg2 : cutS X (endW X b k) = g := hg
      have mf := first_8 X hc h8 (o := o) (k := k) hg2
      cases g <;> exact memo_pure (hs := [(20, .call _), (25, .val (.bool (decide (o < 84))) (.bool false)), (28, .val (.bool (decide (o > 1542))) (.bool false)), (32, .val (.bool (decide (b < 0))) (.bool false)), (37, .val (.bool (decide (b > t))) (.bool false)), (47, .val (.bool (decide (t > W (b + W (o * X.per))))) (.bool false)), (63, .bin .quo 3 _ _ _), (64, .val (.int .i64 (if quoW X b t > 64 then quoW X b t else 64)) (.int .i64 k)), (68, .val (.bool (decide (W (o - k) < 64))) (.bool false)), (79, .call _)]) (ch := []) 9 (evk 50) special
        ⟨m1, congrArg Value.bool h1, congrArg Value.bool h2, congrArg Value.bool h3, congrArg Value.bool h4, congrArg Value.bool h5, b1, congrArg (Value.int .i64) hmx, congrArg Value.bool h6, mf, trivial⟩ trivial (by kernel_rfl) (X.smallH 2 1) (by kernel_rfl)
  exact key _ rfl hg
theorem PreN (c n k : Nat) (cyc per sh o b t : Int) (bl nx : Nat) : Memo.Ok Try.prog ⟨24, nx, [lvN c cyc per sh, hv bl n k, .int .i64 o, .int .i64 b, .int .i64 t], [], .tuple #[.int .i64 0, .int .i64 0, .int .i64 471], [], nx⟩ := by
  have m1 := checkN_m c n k cyc per sh t 0 4
  have : Memo.Ok Try.prog ⟨24, 1, [lvN c cyc per sh, hv 0 n k, .int .i64 o, .int .i64 b, .int .i64 t], [], .tuple #[.int .i64 0, .int .i64 0, .int .i64 471], [], 1⟩ :=
    memo_pure (hs := [(20, .call _)]) (ch := []) 4 (evk 50) special ⟨m1, trivial⟩ trivial (by kernel_rfl) rfl (by kernel_rfl)
  exact memo_no this bl nx (by kernel_rfl) rfl rfl
theorem PreE_m (X : Cx) (o b t : Int) {e : Int} (he : errC X t = e) (hne : (e != 0) = true) (bl nx : Nat) : Memo.Ok Try.prog ⟨24, nx, [X.lv, X.hv (bl + 1), .int .i64 o, .int .i64 b, .int .i64 t], X.V (bl + 1), .tuple #[.int .i64 0, .int .i64 0, .int .i64 e], [], nx⟩ :=
  X.mv (PreE X o b t he hne) bl nx (by kernel_rfl) rfl rfl
theorem PreA_m (X : Cx) {o b t : Int} (he : errC X t = 0) (hb : badP X o b t = true) (bl nx : Nat) : Memo.Ok Try.prog ⟨24, nx, [X.lv, X.hv (bl + 1), .int .i64 o, .int .i64 b, .int .i64 t], X.V (bl + 1), .tuple #[.int .i64 0, .int .i64 0, .int .i64 2], [], nx⟩ :=
  X.mv (PreA X he hb) bl nx (by kernel_rfl) rfl rfl
theorem PreY_m (X : Cx) {o b t : Int} (he : errC X t = 0) (hper : X.per ≠ 0) (hb : badP X o b t = false) {g : Bool} (hg : preS X o (kW X b t) (endW X b (kW X b t)) = g) (bl nx : Nat) :
    Memo.Ok Try.prog ⟨24, nx, [X.lv, X.hv (bl + 1), .int .i64 o, .int .i64 b, .int .i64 t], X.V (bl + 1), preV g (endW X b (kW X b t)) (restW o (kW X b t)), [], nx⟩ :=
  X.mv (PreY X he hper hb hg) bl nx (by kernel_rfl) rfl rfl
section
open Go.ChangeShapes
/-- Five parameters. -/
theorem trod5 {H : Type} {enc : TypeId × Value → H} {P : Program} {w : World} {base : Nat} {spare : Nat → Bool} {held : Bool} {t0 t1 t2 t3 t4 : TypeId} {args : Array Value} {ds : List (DataW H)} {ps : List MemPlace} (h : DataW.TrodAll enc P w base spare held [t0, t1, t2, t3, t4] args.toList ds ps) :
    ∃ v0 v1 v2 v3 v4 d0 d1 d2 d3 d4 p0 p1 p2 p3 p4, args = #[v0, v1, v2, v3, v4] ∧ ds = [d0, d1, d2, d3, d4] ∧ ps = p0 ++ p1 ++ p2 ++ p3 ++ p4 ∧ DataW.Trod enc P w base spare held t0 v0 d0 p0 ∧ DataW.Trod enc P w base spare held t1 v1 d1 p1 ∧ DataW.Trod enc P w base spare held t2 v2 d2 p2 ∧ DataW.Trod enc P w base spare held t3 v3 d3 p3 ∧ DataW.Trod enc P w base spare held t4 v4 d4 p4 := by
  obtain ⟨v0, r0, d0, e0, p0, q0, hargs, rfl, rfl, h0, g0⟩ := trodAll_cons h
  obtain ⟨v1, r1, d1, e1, p1, q1, rfl, rfl, rfl, h1, g1⟩ := trodAll_cons g0
  obtain ⟨v2, r2, d2, e2, p2, q2, rfl, rfl, rfl, h2, g2⟩ := trodAll_cons g1
  obtain ⟨v3, r3, d3, e3, p3, q3, rfl, rfl, rfl, h3, g3⟩ := trodAll_cons g2
  obtain ⟨v4, r4, d4, e4, p4, q4, rfl, rfl, rfl, h4, g4⟩ := trodAll_cons g3
  obtain ⟨rfl, rfl, rfl⟩ := trodAll_nil g4
  exact ⟨v0, v1, v2, v3, v4, d0, d1, d2, d3, d4, p0, p1, p2, p3, p4, by cases args; simp_all, rfl, by simp, h0, h1, h2, h3, h4⟩
end
end Go.Proofs.Ytjconcfkpgkbkaa.choose
