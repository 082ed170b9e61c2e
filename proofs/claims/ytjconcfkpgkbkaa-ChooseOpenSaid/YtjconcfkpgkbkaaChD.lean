/- Contracts: gates (layer 27): stretch. -/
import Derived.Test.YtjconcfkpgkbkaaChC
namespace Go.Proofs.Ytjconcfkpgkbkaa.choose
open Go Go.En
set_option linter.unusedVariables false

def andS (x : Int) : Int := IntKind.i64.wrap ((BitVec.ofInt IntKind.i64.bits x &&& BitVec.ofInt IntKind.i64.bits 1).toNat)
def bitS (m cls : Int) : Int := andS (m.fdiv (2 ^ (min cls.toNat IntKind.i64.bits)))
def openS (cls m : Int) : Bool := bitS m cls == 1
def shutS (cls m : Int) : Bool := bitS m cls == 0
theorem has_open {cls : Int} (h : 0 ≤ cls) (m : Int) : Memo.Ok Try.prog ⟨70, 1, [.int .i64 m, pt 0], [(0, [.int .i64 cls])], .bool (openS cls m), [], 1⟩ := by
  have b := fun xo yo => shr_bin (P := Try.prog) (t := 3) (k := .i64) (k' := .i64) (a := m) h xo yo
  exact memo_pure (hs := [(6, .bin .shr 3 _ _ _)]) (ch := []) 1 (evk 50) special ⟨b, trivial⟩ trivial (by kernel_rfl) rfl (by kernel_rfl)
theorem has_shut {cls : Int} (h : 0 ≤ cls) (m : Int) : Memo.Ok Try.prog ⟨67, 1, [.int .i64 m, pt 0], [(0, [.int .i64 cls])], .bool (shutS cls m), [], 1⟩ := by
  have b := fun xo yo => shr_bin (P := Try.prog) (t := 3) (k := .i64) (k' := .i64) (a := m) h xo yo
  exact memo_pure (hs := [(6, .bin .shr 3 _ _ _)]) (ch := []) 1 (evk 50) special ⟨b, trivial⟩ trivial (by kernel_rfl) rfl (by kernel_rfl)
/-- The two properties that masks are asked for. -/
def hasG (g : Nat) (cls m : Int) : Bool := if g = 70 then openS cls m else shutS cls m
theorem has_m {g : Nat} (hg : g = 70 ∨ g = 67) {cls : Int} (h : 0 ≤ cls) (m : Int) {p : Bool} (hp : hasG g cls m = p) (nx : Nat) : Memo.Ok Try.prog ⟨g, nx, [.int .i64 m, pt 1], [(1, [.int .i64 cls])], .bool p, [], nx⟩ := by
  rcases hg with rfl | rfl
  · have hp : openS cls m = p := by simpa [hasG] using hp
    exact memo_blk (hp ▸ has_open h m) rfl 1 nx (by kernel_rfl) rfl rfl
  · have hp : shutS cls m = p := by simpa [hasG] using hp
    exact memo_blk (hp ▸ has_shut h m) rfl 1 nx (by kernel_rfl) rfl rfl
theorem gcheck_m {es : List Ent} {c : Nat} {cyc : Int} (hn : es.length ≤ 1000) {p : Bool} (h : chkG es cyc = p) (nx : Nat) : Memo.Ok Try.prog ⟨29, nx, [gv es.length c cyc], [(0, ecs es)], .int .i64 (bif p then 0 else 370), [], nx⟩ :=
  memo_blk (h ▸ gcheck_0 hn) (ecs_av es) 0 nx (by kernel_rfl) rfl rfl
theorem find_m {es : List Ent} {c : Nat} {cyc : Int} (hG : Good es cyc) (t : Int) (nx : Nat) : Memo.Ok Try.prog ⟨71, nx, [gv es.length c cyc, .int .i64 t], [(0, ecs es)], .tuple #[.int .i64 (findS es t cyc).1, .int .i64 (findS es t cyc).2], [], nx⟩ :=
  memo_blk (find_0 hG t) (ecs_av es) 0 nx (by kernel_rfl) rfl rfl
theorem findP_ok : ∀ {es : List Ent} {r : Int} {i : Nat}, (∀ e ∈ es, entOk e = true) → 0 ≤ r → r < lsum es → i ≤ (findP es r i).1 ∧ (findP es r i).1 < i + es.length ∧ 1 ≤ (findP es r i).2 ∧ (findP es r i).2 ≤ 9600000
  | [], r, i, _, h0, h1 => by simp only [lsum] at h1; omega
  | e :: es, r, i, hok, h0, h1 => by
    have he := entOk_iff.1 (hok e (by simp))
    simp only [lsum] at h1
    simp only [findP, List.length_cons]
    cases hq : decide (r ≥ e.long) with
    | true =>
      simp only [decide_eq_true_eq] at hq
      have := findP_ok (es := es) (r := r - e.long) (i := i + 1) (fun x hx => hok x (by simp [hx])) (by omega) (by omega)
      simp only [cond_true]
      omega
    | false =>
      simp only [decide_eq_false_iff_not] at hq
      simp only [cond_false]
      omega
theorem findS_ok {es : List Ent} {cyc : Int} (hG : Good es cyc) (t : Int) : (findS es t cyc).1 < es.length ∧ 1 ≤ (findS es t cyc).2 ∧ (findS es t cyc).2 ≤ 9600000 := by
  have hp := ph_range (t := t) hG.pos hG.le
  have hs := hG.sum
  have := findP_ok (i := 0) hG.ok hp.1 (by omega)
  unfold findS
  omega
def longAt (es : List Ent) (i : Nat) : Int := (es.getD i ⟨0, 0⟩).long
def maskAt (es : List Ent) (i : Nat) : Int := (es.getD i ⟨0, 0⟩).mask
def strP (es : List Ent) (has : Int → Bool) (cyc : Int) : Nat → Nat → Int → Int → Int
  | 0, _, _, _ => cyc
  | k + 1, i, left, n => bif has (maskAt es i) then strP es has cyc k ((i + 1) % es.length) (longAt es ((i + 1) % es.length)) (n + left) else n
def fv (g : Nat) : Value := .func (.func g) #[] #[pt 1]
def T66 (g n c : Nat) (i left s m k : Int) : List Value := [J, J, fv g, pt 2, J, J, .int .i64 0, .int .i64 i, .int .i64 left, .int .i64 s] ++ List.replicate 9 J ++ [.int .i64 m, .int .i64 k] ++ List.replicate 29 J
def TR66 (s : Int) : List Value := [J, J, J, J, J, J, .int .i64 s] ++ List.replicate 43 J
def TX66 : List Value := [J, J, J, pt 2] ++ List.replicate 46 J
def H66 (es : List Ent) (c : Nat) (cyc cls : Int) : Hp := [(2, .cells (gc es.length c cyc) true), (0, .cells (ecs es) true), (1, .cells [.int .i64 cls] true)]
theorem H66_below (es : List Ent) (c : Nat) (cyc cls : Int) {n : Nat} (hn : 3 ≤ n) : hpBelow n (H66 es c cyc cls) = true := by
  have a0 : tidyB n (.cells (ecs es) true) = true := small_avL (ecs_av es)
  have a1 : tidyB n (.cells (gc es.length c cyc) true) = true := by simp [tidyB, gc, esl, En.smallL, En.small]; omega
  have a2 : tidyB n (.cells [.int .i64 cls] true) = true := rfl
  simp only [H66, hpBelow, a0, a1, a2, Bool.and_true]
  simp; omega
theorem at_some {es : List Ent} {i : Nat} (h : i < es.length) : es[i]? = some (es.getD i ⟨0, 0⟩) := by
  rw [List.getD_eq_getElem?_getD, List.getElem?_eq_getElem h]; rfl
section
variable {es : List Ent} {c : Nat} {cyc cls : Int} {g : Nat}
theorem s_no (hg : g = 70 ∨ g = 67) (hcls : 0 ≤ cls) {i : Nat} (hi : i < es.length) {left s m k : Int} (hk : decide (k < m) = true) (hq : hasG g cls (maskAt es i) = false) :
    CodeOk Try.prog none (lp Try.prog 66 4) (T66 g es.length c i left s m k) [] (H66 es c cyc cls) 4 ⟨.ret, TR66 s, [], H66 es c cyc cls, 4⟩ := by
  have mh := has_m hg hcls (maskAt es i) hq 4
  have l1 := ldM (ro := true) (at_some hi)
  rcases hg with rfl | rfl <;>
    exact code_at (hs := [(21, .val (.bool (decide (k < m))) (.bool true)), (26, .ix 22 (esl es.length c) (.int .i64 i) _), (28, .ld 3 _ 0 (ecs es) true _), (29, .call _)]) (ch := []) (evk 50) special
      ⟨congrArg Value.bool hk, ix22 hi, ⟨l1, _, rfl⟩, mh, trivial⟩ trivial (by kernel_rfl) (H66_below es c cyc cls (by omega)) (H66_below es c cyc cls (by omega)) (by kernel_rfl)
theorem s_yes (hg : g = 70 ∨ g = 67) (hcls : 0 ≤ cls) (h1000 : es.length ≤ 1000) {i : Nat} (hi : i < es.length) {left s m k : Int} (hk : decide (k < m) = true) (hq : hasG g cls (maskAt es i) = true) :
    CodeOk Try.prog none (lp Try.prog 66 4) (T66 g es.length c i left s m k) [] (H66 es c cyc cls) 4 ⟨.normal, T66 g es.length c ((i + 1) % es.length : Nat) (longAt es ((i + 1) % es.length)) (W (s + left)) m (W (k + 1)), [], H66 es c cyc cls, 4⟩ := by
  have mh := has_m hg hcls (maskAt es i) hq 4
  have l1 := ldM (ro := true) (at_some hi)
  have hj : (i + 1) % es.length < es.length := Nat.mod_lt _ (by omega)
  have l2 := ldG (ro := true) (at_some hj)
  have w1 : W ((i : Int) + 1) = ((i + 1 : Nat) : Int) := by rw [show (i : Int) + 1 = ((i + 1 : Nat) : Int) by push_cast; rfl]; exact wrap_nat (by omega)
  have b := fun xo yo => rem_bin (P := Try.prog) (t := 3) (k := .i64) (a := ((i + 1 : Nat) : Int)) (b := (es.length : Int)) (by omega) xo yo
  rw [← Int.ofNat_tmod] at b
  rcases hg with rfl | rfl <;>
    exact code_at (hs := [(21, .val (.bool (decide (k < m))) (.bool true)), (26, .ix 22 (esl es.length c) (.int .i64 i) _), (28, .ld 3 _ 0 (ecs es) true _), (29, .call _), (36, .val (.int .i64 (W (i + 1))) (.int .i64 (i + 1 : Nat))), (40, .bin .rem 3 _ _ _), (44, .ix 22 (esl es.length c) (.int .i64 ((i + 1) % es.length : Nat)) _), (46, .ld 3 _ 0 (ecs es) true _)]) (ch := []) (evk 50) special
      ⟨congrArg Value.bool hk, ix22 hi, ⟨l1, _, rfl⟩, mh, congrArg (Value.int .i64) w1, b, ix22 hj, ⟨l2, _, rfl⟩, trivial⟩ trivial (by kernel_rfl) (H66_below es c cyc cls (by omega)) (H66_below es c cyc cls (by omega)) (by kernel_rfl)
theorem s_out (hg : g = 70 ∨ g = 67) {i left s m k : Int} (hk : decide (k < m) = false) :
    CodeOk Try.prog none (lp Try.prog 66 4) (T66 g es.length c i left s m k) [] (H66 es c cyc cls) 4 ⟨.exit 0, TX66, [], H66 es c cyc cls, 4⟩ := by
  rcases hg with rfl | rfl <;>
    exact code_at (hs := [(21, .val (.bool (decide (k < m))) (.bool false))]) (ch := []) (evk 50) special ⟨congrArg Value.bool hk, trivial⟩ trivial (by kernel_rfl) (H66_below es c cyc cls (by omega)) (H66_below es c cyc cls (by omega)) (by kernel_rfl)
/-- What the loop comes to: nothing (all masks have it), or how long. -/
def strO (es : List Ent) (has : Int → Bool) : Nat → Nat → Int → Int → Option Int
  | 0, _, _, _ => none
  | k + 1, i, left, n => bif has (maskAt es i) then strO es has k ((i + 1) % es.length) (longAt es ((i + 1) % es.length)) (n + left) else some n
def F66 (es : List Ent) (c : Nat) (cyc cls : Int) : Option Int → Res
  | none => ⟨.exit 0, TX66, [], H66 es c cyc cls, 4⟩
  | some s => ⟨.ret, TR66 s, [], H66 es c cyc cls, 4⟩
theorem long_ok (hG : Good es cyc) {i : Nat} (h : i < es.length) : 1 ≤ longAt es i ∧ longAt es i ≤ 9600000 := by
  have := hG.at (at_some h)
  exact this.2.2
theorem s_loop (hg : g = 70 ∨ g = 67) (hcls : 0 ≤ cls) (hG : Good es cyc) {m : Nat} (hm : m ≤ 200) : ∀ (k j i : Nat) (left s : Int), j + k = m → i < es.length → 1 ≤ left → left ≤ 9600000 → 0 ≤ s → s ≤ 9600000 * j →
    LoopOk Try.prog none (lp Try.prog 66 4) (T66 g es.length c i left s m j) [] (H66 es c cyc cls) 4 (F66 es c cyc cls (strO es (hasG g cls) k i left s))
  | 0, j, i, left, s, h, hi, _, _, _, _ => by
    exact loopOk_out (s_out hg (decide_eq_false (by omega))) (by show Exit.exit 0 ≠ Exit.normal; simp)
  | k + 1, j, i, left, s, h, hi, h1, h2, h3, h4 => by
    have h128 := hG.n128
    simp only [strO]
    cases hq : hasG g cls (maskAt es i) with
    | false => exact loopOk_out (s_no hg hcls hi (decide_eq_true (by omega)) hq) (by show Exit.ret ≠ Exit.normal; simp)
    | true =>
      have h5 := s_yes (c := c) (cyc := cyc) hg hcls (by omega) hi (left := left) (s := s) (m := m) (k := j) (decide_eq_true (by omega)) hq
      rw [W_id (a := s + left) (by omega), show (j : Int) + 1 = ((j + 1 : Nat) : Int) by push_cast; rfl, show W ((j + 1 : Nat) : Int) = ((j + 1 : Nat) : Int) from wrap_nat (by omega)] at h5
      have hj : (i + 1) % es.length < es.length := Nat.mod_lt _ (by omega)
      have hl := long_ok hG hj
      exact loop_step h5 (s_loop hg hcls hG hm k (j + 1) _ _ _ (by omega) hj hl.1 hl.2 (by omega) (by push_cast; omega))
termination_by k => k
def strS (es : List Ent) (has : Int → Bool) (t cyc : Int) : Int := (strO es has (es.length + 1) (findS es t cyc).1 (findS es t cyc).2 0).getD cyc
theorem stretch_0 (hg : g = 70 ∨ g = 67) (hcls : 0 ≤ cls) (hG : Good es cyc) (t : Int) :
    Memo.Ok Try.prog ⟨66, 2, [gv es.length c cyc, .int .i64 t, fv g], [(0, ecs es), (1, [.int .i64 cls])], .int .i64 (strS es (hasG g cls) t cyc), [], 2⟩ := by
  have hS : En.smallH 2 [(0, ecs es), (1, [.int .i64 cls])] = true := by simp [En.smallH, small_avL (ecs_av es)]; rfl
  have h128 := hG.n128
  have mf := find_m (c := c) hG t 3
  have hf := findS_ok hG t
  have hlo := s_loop (c := c) hg hcls hG (m := es.length + 1) (by omega) (es.length + 1) 0 (findS es t cyc).1 (findS es t cyc).2 0 (by omega) hf.1 hf.2.1 hf.2.2 (by omega) (by omega)
  have w1 : W ((es.length : Int) + 1) = ((es.length + 1 : Nat) : Int) := by rw [show (es.length : Int) + 1 = ((es.length + 1 : Nat) : Int) by push_cast; rfl]; exact wrap_nat (by omega)
  unfold strS
  generalize strO es (hasG g cls) (es.length + 1) (findS es t cyc).1 (findS es t cyc).2 0 = o at hlo ⊢
  generalize findS es t cyc = p at mf hlo
  rcases hg with rfl | rfl <;> cases o <;>
    exact memo_pure (hs := [(3, .frz), (13, .call _), (19, .val (.int .i64 (W (es.length + 1))) (.int .i64 (es.length + 1 : Nat)))]) (ch := [⟨4, none, .loop (lp Try.prog 66 4), T66 _ es.length c p.1 p.2 0 (es.length + 1 : Nat) 0, [], H66 es c cyc cls, 4, _, true⟩]) 4 (evk 50) special ⟨trivial, mf, congrArg (Value.int .i64) w1, trivial⟩ ⟨codeOk_loop hlo, trivial⟩ (by kernel_rfl) hS (by kernel_rfl)
end
end Go.Proofs.Ytjconcfkpgkbkaa.choose
