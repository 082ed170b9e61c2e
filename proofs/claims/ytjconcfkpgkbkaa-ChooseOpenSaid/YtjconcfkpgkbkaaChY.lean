/- Plain: what the time that When returns says of Start; a row with a slice of small numbers beside the line and heads. -/
import Derived.Test.YtjconcfkpgkbkaaChX
namespace Go.Proofs.Ytjconcfkpgkbkaa.choose
open Go Go.En Go.ChangeShapes Go.WideShapes Go.RowKit
set_option linter.unusedVariables false

theorem errC_at {X : Cx} {t m : Int} (he : errC X t = 0) (h0 : 0 ≤ m) (h1 : m ≤ 549755813888) : errC X m = 0 := by
  obtain ⟨hh, hl⟩ := errC_heads he
  unfold errC lateS
  rw [hl, hh, decide_eq_false (show ¬ m < 0 by omega), decide_eq_false (show ¬ m > 549755813888 by omega)]
  rfl
theorem may_is {X : Cx} {m : Int} (he : errC X m = 0) {i : Nat} (hi : i < 8) (hf : fullS X i = true) (hr : freeS X i = true) : mayS X i m = decide (openN X.es i (m + X.sh) X.cyc ≥ (X.at_ i).left * X.per) := by
  obtain ⟨a1, a2, a3, _⟩ := arg_ok he hi hf
  rw [a2, a3] at a1
  unfold mayS fitsX fitsG
  rw [hf, hr, a2, a3, a1]
  simp
theorem may_no {X : Cx} {m : Int} {i : Nat} (h : (fullS X i && freeS X i) = false) : mayS X i m = false := by
  unfold mayS
  cases hf : fullS X i with
  | false => rfl
  | true => rw [hf] at h; simp only [Bool.true_and] at h; rw [h]; rfl
theorem fit_near {es : List Ent} {cyc cls t long a : Int} (hG : Good es cyc) (h : Fit es cyc cls t long (some a)) : a < t + cyc := by
  apply Classical.byContradiction
  intro hn
  obtain ⟨h1, h2, h3⟩ := h
  have hp := hG.pos
  have := h3 (a + cyc * (-1)) (by omega) (by omega)
  rw [openN_per hG] at this
  omega
/-- What the time is for one class. -/
def WSpec (f : Int → Bool) (t : Int) : Option Int → Prop
  | none => ∀ m, t ≤ m → m ≤ 549755813888 → f m = false
  | some n => t ≤ n ∧ n ≤ 1099511627776 ∧ (n ≤ 549755813888 → f n = true) ∧ ∀ m, t ≤ m → m < n → m ≤ 549755813888 → f m = false
theorem whenC_spec {X : Cx} {t : Int} (he : errC X t = 0) {i : Nat} (hi : i < 8) : WSpec (mayS X i) t (whenC X i t) := by
  obtain ⟨hk, _, t0, t1⟩ := errC_ok he
  have hG := good_of hk
  have hle := hG.le
  unfold whenC
  cases hff : (fullS X i && freeS X i) with
  | false => exact fun m _ _ => may_no hff
  | true =>
    simp only [Bool.and_eq_true] at hff
    obtain ⟨_, a2, a3, a4, a5, a6, a7⟩ := arg_ok he hi hff.1
    have hs := fitO_spec X.es X.cyc i (W (t + X.sh)) (W ((X.at_ i).left * X.per))
    rw [a2, a3] at hs ⊢
    have hm : ∀ m, t ≤ m → m ≤ 549755813888 → mayS X i m = decide (openN X.es i (m + X.sh) X.cyc ≥ (X.at_ i).left * X.per) := fun m g1 g2 => may_is (errC_at he (by omega) g2) hi hff.1 hff.2
    simp only [cond_true]
    generalize fitO X.es X.cyc i (t + X.sh) ((X.at_ i).left * X.per) = f at hs ⊢
    cases f with
    | none =>
      intro m g1 g2
      rw [hm m g1 g2]
      exact decide_eq_false (by have := hs (m + X.sh) (by omega); omega)
    | some a =>
      have hn := fit_near hG hs
      obtain ⟨h1, h2, h3⟩ := hs
      have e1 : W (a - X.sh) = a - X.sh := W_id (by omega)
      simp only [Option.map_some, e1]
      refine ⟨by omega, by omega, fun g => ?_, fun m g1 g2 g3 => ?_⟩
      · rw [hm _ (by omega) g, show a - X.sh + X.sh = a by omega]
        exact decide_eq_true h2
      · rw [hm m g1 g3]
        exact decide_eq_false (by have := h3 (m + X.sh) (by omega) (by omega); omega)
theorem down_none {f : Nat → Bool} : ∀ {n : Nat}, (∀ i, i < n → f i = false) → down f n = none
  | 0, _ => rfl
  | n + 1, h => by simp only [down]; rw [h n (by omega)]; exact down_none fun i hi => h i (by omega)
theorem down_is {f : Nat → Bool} : ∀ {n i : Nat}, i < n → f i = true → ∃ j, down f n = some j
  | 0, i, h, _ => by omega
  | n + 1, i, h, hf => by
    simp only [down]
    cases hq : f n with
    | true => exact ⟨n, rfl⟩
    | false =>
      have : i ≠ n := fun e => by subst e; rw [hf] at hq; cases hq
      exact down_is (i := i) (by omega) hf
/-- No class may start before the time that When returns, and one may at that time. -/
theorem when_start {X : Cx} {t : Int} (he : errC X t = 0) : match whenS X t with
    | none => startS X t = none
    | some n => t ≤ n ∧ (∀ m, t ≤ m → m < n → m ≤ 549755813888 → startS X m = none) ∧ (n ≤ 549755813888 → ∃ s, startS X n = some s) := by
  obtain ⟨_, _, t0, t1⟩ := errC_ok he
  have hl := whenS_least X t
  cases hg : whenS X t with
  | none =>
    rw [hg] at hl
    refine down_none fun i hi => ?_
    have h1 := whenC_spec he hi
    rw [show whenC X i t = none from hl i hi] at h1
    exact h1 t (Int.le_refl _) t1
  | some n =>
    rw [hg] at hl
    obtain ⟨⟨j, j1, j2⟩, h2⟩ := hl
    have hj := whenC_spec he j1
    rw [show whenC X j t = some n from j2] at hj
    refine ⟨hj.1, fun m g1 g2 g3 => down_none fun i hi => ?_, fun g => down_is j1 (hj.2.2.1 g)⟩
    have h1 := whenC_spec he hi
    cases hw : whenC X i t with
    | none => rw [hw] at h1; exact h1 m g1 g3
    | some a =>
      rw [hw] at h1
      have := h2 i a hi hw
      exact h1.2.2.2 m g1 (by omega) g3
/-! ### The row -/
structure U16 where
  x : Int
  h : 0 ≤ x ∧ x < 65536
def U16.cells (a : U16) : List Value := [.int .u16 a.x]
abbrev ucs (l : List U16) : List Value := cellsOfL U16.cells l
theorem ucs_av (l : List U16) : avL (ucs l) = true := avL_cellsOfL (fun _ => rfl) l
theorem u51 : Try.prog.underlying 51 = some (.slice 52) := by kernel_rfl
theorem z52 : szIs Try.prog 52 1 false = true := by kernel_rfl
theorem leavesU {row : List Value} (h : LeafL [.i .u16] row) : ∃ p : U16, row = p.cells := by
  obtain ⟨a, r1, rfl, hw, h1⟩ := h.int
  have e0 := h1.done
  subst e0
  simp only [Lit.wf] at hw
  simp at hw
  have e1 : IntKind.u16.min = 0 := by decide
  have e2 : IntKind.u16.max = 65535 := by decide
  exact ⟨⟨a, by omega⟩, rfl⟩
def VB (Y : Raw) (us : List U16) : List (Nat × List Value) := [(0, ecs Y.es), (1, pcs Y.hs), (2, ucs us)]
theorem VB_small (Y : Raw) (us : List U16) (k : Nat) : En.smallH k (VB Y us) = true := by simp [En.smallH, VB, small_avL (ecs_av _), small_avL (pcs_av _), small_avL (ucs_av _)]
section
variable {T : Type} {enc : TypeId × Value → T} {w : World} {base : Nat} {spare : Nat → Bool} {held : Bool} {r : Reach} {b0 : Nat}
theorem open_by {u : Value} {d2 : DataW T} {ps2 : List MemPlace} (hv2 : Value.okWide Try.prog w r b0 51 u) (hd2 : DataW.Trod enc Try.prog w base spare held 51 u d2 ps2) (h0 : CellsAt w 0) (b : Nat) :
    ∃ (hs : List U16) (sb : Option Addr) (k : Nat) (L : En.Loc), SlAt w b hs.length k sb (ucs hs) u L := by
  have hv3 : Cell.okWide Try.prog w r b0 51 u := by simpa only [Value.okWide, u51] using hv2
  obtain ⟨fuel, hf⟩ := hd2
  have hcell : u.cells.toList = [u] := by
    cases u <;> first | rfl | (simp only [Cell.okWide, u51, Cell.ok] at hv3)
  rw [hcell] at hf
  exact open_at (P := Try.prog) (f := U16.cells) (n := 5) u51 hv3 hf (ls := [.i .u16]) (by kernel_rfl) (s := 1) (by kernel_rfl) (fun _ => rfl) (fun _ => leavesU) h0 b
set_option maxRecDepth 100000 in
theorem calls_lhb {f : FuncId} {v u x y : Value} {d d2 d3 : DataW T} {ps ps2 ps3 : List MemPlace} (h0 : CellsAt w 0) (hv : Value.okWide Try.prog w r b0 26 v) (hd : DataW.Trod enc Try.prog w base spare held 26 v d ps)
    (hv2 : Value.okWide Try.prog w r b0 27 u) (hd2 : DataW.Trod enc Try.prog w base spare held 27 u d2 ps2) (hv3 : Value.okWide Try.prog w r b0 51 y) (hd3 : DataW.Trod enc Try.prog w base spare held 51 y d3 ps3) (hx : ∀ φ : Ren, VRel φ x x)
    (h : ∀ (Y : Raw) (us : List U16) (sc : Option Addr) (n c : Nat), Sl 2 n sc → n ≤ c → c < openCap → us.length = min n 8 → Memo.Ok Try.prog ⟨f, 3, [Y.lv, Y.hv, x, .slice sc n c], VB Y us, .bool true, [], 3⟩) :
    Calls Try.prog f [v, u, x, y].toArray w fun e w' => e = .returned (.bool true) ∧ Below w.heap.size w w' := by
  obtain ⟨cyc, per, sh, es, sa, c, L1, v1, rfl, hS⟩ := open_line (w := w) (r := r) (b0 := b0) (v := v) (enc := enc) (base := base) (spare := spare) (held := held) (d := d) (ps := ps) hv hd h0 0
  obtain ⟨hs, sb, k, L2, hL⟩ := open_heads (w := w) (r := r) (b0 := b0) (u := u) (enc := enc) (base := base) (spare := spare) (held := held) (d2 := d2) (ps2 := ps2) hv2 hd2 h0 1
  obtain ⟨us, sc, k3, L3, hB⟩ := open_by (w := w) (r := r) (b0 := b0) (u := y) (enc := enc) (base := base) (spare := spare) (held := held) (d2 := d3) (ps2 := ps3) hv3 hd3 h0 2
  let Y : Raw := ⟨sa, es.length, c, cyc, per, sh, es.take 129, sb, hs.length, k, hs.take 12, hS.sl, hS.le, hS.lt, by simp; omega, hL.sl, hL.le, hL.lt, by simp; omega⟩
  refine calls_open (φ := renL [L1, L2, L3]) (h Y (us.take 8) sc us.length k3 hB.sl hB.le hB.lt (by simp; omega)) (good_V fun b cs hb => ?_) ⟨?_, hL.rel rfl, hx _, hB.rel rfl, trivial⟩
  · by_cases h0 : 0 = b
    · subst h0
      simp [VB, roHp, Hp.get] at hb
      subst hb
      exact ⟨L1, rfl, brel_take hS 129 (ecs_av _)⟩
    · by_cases h1 : 1 = b
      · subst h1
        simp [VB, roHp, Hp.get] at hb
        subst hb
        exact ⟨L2, rfl, brel_take hL 12 (pcs_av _)⟩
      · by_cases h2 : 2 = b
        · subst h2
          simp [VB, roHp, Hp.get] at hb
          subst hb
          exact ⟨L3, rfl, brel_take hB 8 (ucs_av _)⟩
        · simp [VB, roHp, Hp.get, h0, h1, h2] at hb
  · exact .agg' ⟨hS.rel rfl, .int _ _, .int _ _, .int _ _, trivial⟩
end
end Go.Proofs.Ytjconcfkpgkbkaa.choose
