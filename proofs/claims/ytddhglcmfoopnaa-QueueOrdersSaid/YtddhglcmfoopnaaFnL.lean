/- The plain laws: the program's checks are the reference's. -/
import Derived.Test.YtddhglcmfoopnaaFnK
namespace Go.Proofs.Ytddhglcmfoopnaa.queue
open Go Go.En
set_option linter.unusedVariables false

theorem item_eq (x : It) : itemOk x = itemR x := by
  rw [Bool.eq_iff_iff]
  simp only [itemOk, itemR, within, from0, Bool.and_eq_true, decide_eq_true_eq]
  omega
theorem eq_whole (x : Pt) : eqPt x (wholeP x.it) = ((x.left == x.it.size) && !x.rest) := by
  cases hr : x.rest <;> simp [eqPt, eqIt, wholeP, hr]
theorem part_eq (x : Pt) : partC x = partR x := by
  unfold partC partR
  rw [item_eq, eq_whole]
  cases hr : x.rest with
  | false => simp
  | true =>
    simp only [Bool.not_true, Bool.and_false, Bool.false_or, Bool.true_and, cond_true, within]
    congr 1
    rw [Bool.eq_iff_iff]
    simp only [Bool.and_eq_true, Bool.not_eq_true', decide_eq_false_iff_not, decide_eq_true_eq]
    omega

abbrev W (a : Int) : Int := IntKind.i64.wrap a
theorem W_spec (a : Int) : -9223372036854775808 ≤ W a ∧ W a < 9223372036854775808 ∧ (W a - a) % 18446744073709551616 = 0 := by
  simp only [W, IntKind.wrap, IntKind.signed, IntKind.bits]
  simp
  split <;> omega
def inR (a : Int) : Prop := -9223372036854775808 ≤ a ∧ a < 9223372036854775808
theorem W_in (a : Int) : inR (W a) := ⟨(W_spec a).1, (W_spec a).2.1⟩
theorem W_id {a : Int} (h : inR a) : W a = a := by
  have := W_spec a
  unfold inR at h
  omega
theorem sumW_in {f : Pt → Int} : ∀ {l : List Pt} {a : Int}, inR a → inR (sumW f l a)
  | [], a, h => h
  | p :: l, a, h => sumW_in (l := l) (W_in _)
theorem rightGo_eq : ∀ (l : List Pt) (i : Nat) (a : Int), inR a → rightGo l i a = bif anyBad l i then none else some (sumW freshL l a)
  | [], i, a, h => rfl
  | p :: l, i, a, h => by
    have hb : badR p i = badC p i := by
      unfold badR badC
      rw [part_eq, Bool.and_comm p.rest]
    have ha : accR p a = W (a + freshL p) := by
      unfold accR freshL
      cases p.rest
      · rfl
      · simp only [cond_true, Int.add_zero]; exact (W_id h).symm
    simp only [rightGo, anyBad, hb, ha]
    cases badC p i with
    | true => rfl
    | false => exact rightGo_eq l (i + 1) _ (W_in _)
theorem right_eq (cap : Int) (l : List Pt) : rightS cap l = checkS cap l := by
  unfold rightS checkS
  rw [rightGo_eq l 0 0 (by unfold inR; omega)]
  cases anyBad l 0 with
  | true => simp [fits]
  | false =>
    simp only [cond_false, fits, within, Bool.false_or]
    rw [Bool.eq_iff_iff]
    simp only [Bool.and_eq_true, Bool.not_eq_true', Bool.or_eq_false_iff, decide_eq_false_iff_not, decide_eq_true_eq]
    omega
theorem eqPt_refl (p : Pt) : eqPt p p = true := by simp [eqPt, eqIt]
theorem eqL_refl : ∀ l : List Pt, eqL l l = true
  | [] => rfl
  | p :: l => by simp [eqL, eqPt_refl, eqL_refl l]
theorem same_refl (a : Int) (l : List Pt) : sameS a a l l = true := by simp [sameS, eqL_refl]
theorem right_m {cs : List Value} {off c : Nat} {cap : Int} (hs : avL cs = true) {l : List Pt} (hl : l.length < 9223372036854775807) (hh : Holds cs off l) {p : Bool} (h : checkS cap l = p) (b nx : Nat) :
    Memo.Ok Try.prog ⟨11, nx, [qv cap b off l.length c], [(b, cs)], .bool p, [], nx⟩ :=
  memo_blk (h ▸ right_eq cap l ▸ right_0 hs hl hh) hs b nx (by kernel_rfl) rfl rfl
theorem right_nm {cap : Int} {p : Bool} (h : checkS cap [] = p) (nx : Nat) : Memo.Ok Try.prog ⟨11, nx, [q0 cap], [], .bool p, [], nx⟩ :=
  memo_any (h ▸ right_eq cap [] ▸ right_nil cap) nx (by kernel_rfl) rfl rfl
theorem same_nm {a b : Int} (h : a = b) (nx : Nat) : Memo.Ok Try.prog ⟨20, nx, [q0 a, q0 b], [], .bool true, [], nx⟩ := by
  subst h
  exact memo_any (same_refl a [] ▸ same_nil a a) nx (by kernel_rfl) rfl rfl
theorem few_m {off n c : Nat} {cap : Int} {cs : List Value} (hn : n ≤ c) (hc : c < openCap) (hs : avL cs = true) (b nx : Nat) : Memo.Ok Try.prog ⟨10, nx, [qv cap b off n c], [(b, cs)], qv cap b off (minI n) c, [], nx⟩ :=
  memo_blk (few_0 hn hc hs) hs b nx (by kernel_rfl) rfl rfl
theorem few_nm (cap : Int) (nx : Nat) : Memo.Ok Try.prog ⟨10, nx, [q0 cap], [], q0 cap, [], nx⟩ := memo_any (few_nil cap) nx (by kernel_rfl) rfl rfl
theorem new_m {cap : Int} {p : Bool} (h : within cap 0 65536 = p) (nx : Nat) : Memo.Ok Try.prog ⟨19, nx, [.int .i64 cap], [], .tuple #[q0 (bif p then cap else 0), .int .i64 (bif p then 0 else 2)], [], nx⟩ :=
  memo_any (h ▸ new_0 cap) nx (by kernel_rfl) rfl rfl
theorem wakes_0 : Memo.Ok Try.prog ⟨9, 0, [], [], .bool true, [], 0⟩ :=
  memo_pure (hs := []) (ch := []) 233 (evk 50) special trivial trivial (by kernel_rfl) rfl (by kernel_rfl)
theorem wakes_m (nx : Nat) : Memo.Ok Try.prog ⟨9, nx, [], [], .bool true, [], nx⟩ := memo_any wakes_0 nx (by kernel_rfl) rfl rfl
end Go.Proofs.Ytddhglcmfoopnaa.queue
