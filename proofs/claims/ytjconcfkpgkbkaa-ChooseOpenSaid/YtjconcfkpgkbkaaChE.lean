/- Contracts: gates (layer 27): open, check, Fits. -/
import Derived.Test.YtjconcfkpgkbkaaChD
namespace Go.Proofs.Ytjconcfkpgkbkaa.choose
open Go Go.En
set_option linter.unusedVariables false

def ρ1 (b : Nat) : Nat → Nat
  | 0 => 0
  | _ => b
section
variable {es : List Ent} {c : Nat} {cyc cls : Int}
theorem stretch_m {g : Nat} (hg : g = 70 ∨ g = 67) (hcls : 0 ≤ cls) (hG : Good es cyc) (t : Int) (b nx : Nat) :
    Memo.Ok Try.prog ⟨66, nx, [gv es.length c cyc, .int .i64 t, .func (.func g) #[] #[pt (b + 1)]], [(0, ecs es), (b + 1, [.int .i64 cls])], .int .i64 (strS es (hasG g cls) t cyc), [], nx⟩ := by
  have := memo_ren (stretch_0 (c := c) hg hcls hG t) (ρ1 (b + 1)) nx [(0, ecs es), (b + 1, [.int .i64 cls])] (by rcases hg with rfl | rfl <;> kernel_rfl) (by simp [En.smallH, small_avL (ecs_av es)]; rfl) rfl (fun x cs hx => by
    by_cases h0 : 0 = x
    · subst h0
      simp [roHp, Hp.get, ρ1] at hx ⊢
      subst hx
      exact (renV_avL (ecs_av es)).symm
    · by_cases h1 : 1 = x
      · subst h1
        simp [roHp, Hp.get, ρ1] at hx ⊢
        subst hx
        rfl
      · simp [roHp, Hp.get, h0, h1] at hx)
  exact this
def openN (es : List Ent) (cls t cyc : Int) : Int := bif strS es (hasG 70 cls) t cyc == cyc then 1099511627776 else strS es (hasG 70 cls) t cyc
theorem open_0 (hcls : 0 ≤ cls) (hG : Good es cyc) (t : Int) : Memo.Ok Try.prog ⟨65, 1, [gv es.length c cyc, .int .i64 cls, .int .i64 t], [(0, ecs es)], .int .i64 (openN es cls t cyc), [], 1⟩ := by
  have hS : En.smallH 1 [(0, ecs es)] = true := by simp [En.smallH, small_avL (ecs_av es)]
  have ms := stretch_m (c := c) (g := 70) (.inl rfl) hcls hG t 1 3
  unfold openN
  generalize strS es (hasG 70 cls) t cyc = n at ms ⊢
  have key : ∀ q, (n == cyc) = q → Memo.Ok Try.prog ⟨65, 1, [gv es.length c cyc, .int .i64 cls, .int .i64 t], [(0, ecs es)], .int .i64 (bif q then 1099511627776 else n), [], 1⟩ := by
    intro q hq
    cases q <;> exact memo_pure (hs := [(3, .frz), (4, .frz), (11, .call _), (15, .val (.bool (n == cyc)) (.bool _))]) (ch := []) 3 (evk 50) special ⟨trivial, trivial, ms, congrArg Value.bool hq, trivial⟩ trivial (by kernel_rfl) hS (by kernel_rfl)
  exact key _ rfl
theorem open_m (hcls : 0 ≤ cls) (hG : Good es cyc) (t : Int) {v : Int} (hv : openN es cls t cyc = v) (nx : Nat) : Memo.Ok Try.prog ⟨65, nx, [gv es.length c cyc, .int .i64 cls, .int .i64 t], [(0, ecs es)], .int .i64 v, [], nx⟩ :=
  memo_blk (hv ▸ open_0 hcls hG t) (ecs_av es) 0 nx (by kernel_rfl) rfl rfl
def argG (cls t long : Int) : Bool := decide (cls < 0) || (decide (cls ≥ 8) || (decide (t < -1099511627776) || (decide (t > 1099511627776) || (decide (long < 0) || decide (long > 1099511627776)))))
def errG (es : List Ent) (cyc cls t long : Int) : Int := bif chkG es cyc then (bif argG cls t long then 2 else 0) else 370
theorem gargs_0 (hn : es.length ≤ 1000) (cls t long : Int) : Memo.Ok Try.prog ⟨64, 1, [gv es.length c cyc, .int .i64 cls, .int .i64 t, .int .i64 long], [(0, ecs es)], .int .i64 (errG es cyc cls t long), [], 1⟩ := by
  have hS : En.smallH 1 [(0, ecs es)] = true := by simp [En.smallH, small_avL (ecs_av es)]
  unfold errG argG
  have key : ∀ p p1 p2 p3 p4 p5 p6, chkG es cyc = p → decide (cls < 0) = p1 → decide (cls ≥ 8) = p2 → decide (t < -1099511627776) = p3 → decide (t > 1099511627776) = p4 → decide (long < 0) = p5 → decide (long > 1099511627776) = p6 →
      Memo.Ok Try.prog ⟨64, 1, [gv es.length c cyc, .int .i64 cls, .int .i64 t, .int .i64 long], [(0, ecs es)], .int .i64 (bif p then (bif p1 || (p2 || (p3 || (p4 || (p5 || p6)))) then 2 else 0) else 370), [], 1⟩ := by
    intro p p1 p2 p3 p4 p5 p6 h h1 h2 h3 h4 h5 h6
    have mc := gcheck_m (c := c) hn h 2
    cases p
    · exact memo_pure (hs := [(4, .frz), (11, .call _)]) (ch := []) 2 (evk 50) special ⟨trivial, mc, trivial⟩ trivial (by kernel_rfl) hS (by kernel_rfl)
    · cases p1 <;> cases p2 <;> cases p3 <;> cases p4 <;> cases p5 <;> cases p6 <;>
        exact memo_pure (hs := [(4, .frz), (11, .call _), (16, .val (.bool (decide (cls < 0))) (.bool _)), (19, .val (.bool (decide (cls ≥ 8))) (.bool _)), (23, .val (.bool (decide (t < -1099511627776))) (.bool _)), (27, .val (.bool (decide (t > 1099511627776))) (.bool _)), (31, .val (.bool (decide (long < 0))) (.bool _)), (35, .val (.bool (decide (long > 1099511627776))) (.bool _))]) (ch := []) 2 (evk 50) special
          ⟨trivial, mc, congrArg Value.bool h1, congrArg Value.bool h2, congrArg Value.bool h3, congrArg Value.bool h4, congrArg Value.bool h5, congrArg Value.bool h6, trivial⟩ trivial (by kernel_rfl) hS (by kernel_rfl)
  exact key _ _ _ _ _ _ _ rfl rfl rfl rfl rfl rfl rfl
theorem gargs_m (hn : es.length ≤ 1000) {cls t long e : Int} (h : errG es cyc cls t long = e) (nx : Nat) : Memo.Ok Try.prog ⟨64, nx, [gv es.length c cyc, .int .i64 cls, .int .i64 t, .int .i64 long], [(0, ecs es)], .int .i64 e, [], nx⟩ :=
  memo_blk (h ▸ gargs_0 hn cls t long) (ecs_av es) 0 nx (by kernel_rfl) rfl rfl
/-- Whether a class fits, where the list is valid. -/
def fitsG (es : List Ent) (cyc cls t long : Int) : Bool := !argG cls t long && decide (openN es cls t cyc ≥ long)
def fitsV (es : List Ent) (cyc cls t long : Int) : Value := .tuple #[.bool (fitsG es cyc cls t long), .int .i64 (bif argG cls t long then 2 else 0)]
theorem gfits_0 (hG : Good es cyc) (hk : chkG es cyc = true) (cls t long : Int) : Memo.Ok Try.prog ⟨61, 1, [gv es.length c cyc, .int .i64 cls, .int .i64 t, .int .i64 long], [(0, ecs es)], fitsV es cyc cls t long, [], 1⟩ := by
  have hS : En.smallH 1 [(0, ecs es)] = true := by simp [En.smallH, small_avL (ecs_av es)]
  have h128 := hG.n128
  unfold fitsV fitsG
  cases ha : argG cls t long with
  | true =>
    have ma := gargs_m (c := c) (by omega) (show errG es cyc cls t long = 2 by unfold errG; rw [hk, ha]; rfl) 2
    exact memo_pure (hs := [(4, .frz), (15, .call _)]) (ch := []) 2 (evk 50) special ⟨trivial, ma, trivial⟩ trivial (by kernel_rfl) hS (by kernel_rfl)
  | false =>
    have ma := gargs_m (c := c) (by omega) (show errG es cyc cls t long = 0 by unfold errG; rw [hk, ha]; rfl) 2
    have hcls : 0 ≤ cls := by
      simp only [argG, Bool.or_eq_false_iff, decide_eq_false_iff_not] at ha
      omega
    have mo := open_m (c := c) hcls hG t rfl 2
    exact memo_pure (hs := [(4, .frz), (15, .call _), (22, .call _)]) (ch := []) 2 (evk 50) special ⟨trivial, ma, mo, trivial⟩ trivial (by kernel_rfl) hS (by kernel_rfl)
end
end Go.Proofs.Ytjconcfkpgkbkaa.choose
