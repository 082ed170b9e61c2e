/- Contracts: octets, fresh, the reference's Right. -/
import Derived.Test.YtddhglcmfoopnaaFnB
namespace Go.Proofs.Ytddhglcmfoopnaa.queue
open Go Go.En
set_option linter.unusedVariables false

theorem tot_m {g : Nat} {F : Pt → Int} (hg : (g = 37 ∧ F = freshL) ∨ (g = 38 ∧ F = (·.left))) {cs : List Value} {off c : Nat} (hs : avL cs = true) {l : List Pt} (hl : l.length < 9223372036854775807) (hh : Holds cs off l) (b nx : Nat) :
    Memo.Ok Try.prog ⟨36, nx, [.slice (some ⟨b, off, none⟩) l.length c, .func (.func g) #[] #[]], [(b, cs)], .int .i64 (sumW F l 0), [], nx⟩ :=
  memo_blk (tot_0 hg hs hl hh) hs b nx (by kernel_rfl) rfl rfl
theorem octL_0 {cs : List Value} {off c : Nat} {cap : Int} (hs : avL cs = true) {l : List Pt} (hl : l.length < 9223372036854775807) (hh : Holds cs off l) :
    Memo.Ok Try.prog ⟨34, 1, [qv cap 0 off l.length c], [(0, cs)], .int .i64 (sumW (·.left) l 0), [], 1⟩ :=
  memo_pure (hs := [(6, .call _)]) (ch := []) 2 (evk 50) special ⟨tot_m (c := c) (.inr ⟨rfl, rfl⟩) hs hl hh 0 2, trivial⟩ trivial (by kernel_rfl) (by simp [smallH, small_avL hs]) (by kernel_rfl)
theorem freshL_0 {cs : List Value} {off c : Nat} {cap : Int} (hs : avL cs = true) {l : List Pt} (hl : l.length < 9223372036854775807) (hh : Holds cs off l) :
    Memo.Ok Try.prog ⟨31, 1, [qv cap 0 off l.length c], [(0, cs)], .int .i64 (sumW freshL l 0), [], 1⟩ :=
  memo_pure (hs := [(6, .call _)]) (ch := []) 2 (evk 50) special ⟨tot_m (c := c) (.inl ⟨rfl, rfl⟩) hs hl hh 0 2, trivial⟩ trivial (by kernel_rfl) (by simp [smallH, small_avL hs]) (by kernel_rfl)

/-! ### Right -/
def T11 (a i : Value) : List Value := [J, .pointer (some ⟨1, 0, none⟩), .bool false, a, i] ++ List.replicate 43 J
def badR (p : Pt) (i : Nat) : Bool := !partR p || (decide ((i : Int) > 0) && p.rest)
def accR (p : Pt) (acc : Int) : Int := bif p.rest then acc else IntKind.i64.wrap (acc + p.left)
theorem right_go {cs : List Value} {off n c : Nat} {cap acc : Int} {i : Nat} {p : Pt} (hi : i < n) (hp : ∀ (j : Nat) v, p.cells[j]? = some v → cs[off + i * 7 + j]? = some v) (hs : smallL (small 2 5) cs = true) :
    CodeOk Try.prog none (lp Try.prog 11 5) (T11 (.int .i64 acc) (.int .i64 i)) [] (H18 cap off n c cs) 2
      (bif badR p i then ⟨.ret, T11 J J, [], H18 cap off n c cs, 2⟩ else ⟨.normal, T11 (.int .i64 (accR p acc)) (.int .i64 (IntKind.i64.wrap (i + 1))), [], H18 cap off n c cs, 2⟩) := by
  obtain ⟨⟨a, b, c', d, e⟩, left, rest⟩ := p
  have key : ∀ p1 p2, partR ⟨⟨a, b, c', d, e⟩, left, rest⟩ = p1 → decide ((i : Int) > 0) = p2 →
      CodeOk Try.prog none (lp Try.prog 11 5) (T11 (.int .i64 acc) (.int .i64 i)) [] (H18 cap off n c cs) 2
      (bif !p1 || (p2 && rest) then ⟨.ret, T11 J J, [], H18 cap off n c cs, 2⟩ else ⟨.normal, T11 (.int .i64 (accR ⟨⟨a, b, c', d, e⟩, left, rest⟩ acc)) (.int .i64 (IntKind.i64.wrap (i + 1))), [], H18 cap off n c cs, 2⟩) := by
    intro p1 p2 h1 h2
    have m1 := partR_m _ h1 5
    cases p1 <;> cases p2 <;> cases rest <;>
      exact code_at (hs := [(18, .val (.bool (decide ((i : Int) < n))) (.bool true)), (24, .win 22 (.slice (some ⟨0, off, none⟩) n c) (.int .i64 i) 0 (off + i * 7) cs (Pt.cells ⟨⟨a, b, c', d, e⟩, left, _⟩)), (27, .call _), (31, .val (.bool (decide ((i : Int) > 0))) (.bool _))]) (ch := []) (evk 50) special
          ⟨congrArg Value.bool (decide_eq_true (by omega)), ⟨ix22 hi, hp⟩, m1, congrArg Value.bool h2, trivial⟩ trivial (by kernel_rfl) (H18_below hs) (H18_below hs) (by kernel_rfl)
  exact key _ _ rfl rfl
theorem right_out {cs : List Value} {off n c : Nat} {cap acc : Int} (hs : smallL (small 2 5) cs = true) :
    CodeOk Try.prog none (lp Try.prog 11 5) (T11 (.int .i64 acc) (.int .i64 n)) [] (H18 cap off n c cs) 2 ⟨.exit 0, T11 (.int .i64 acc) (.int .i64 n), [], H18 cap off n c cs, 2⟩ :=
  code_at (hs := [(18, .val (.bool (decide ((n : Int) < n))) (.bool false))]) (ch := []) (evk 50) special
    ⟨congrArg Value.bool (decide_eq_false (by omega)), trivial⟩ trivial (by kernel_rfl) (H18_below hs) (H18_below hs) (by kernel_rfl)

/-- The parts from i on: the sum of those that are no rests, or nothing. -/
def rightGo : List Pt → Nat → Int → Option Int
  | [], _, acc => some acc
  | p :: l, i, acc => bif badR p i then none else rightGo l (i + 1) (accR p acc)
def R11 (cap : Int) (off n c : Nat) (cs : List Value) : Option Int → Res
  | some a => ⟨.exit 0, T11 (.int .i64 a) (.int .i64 n), [], H18 cap off n c cs, 2⟩
  | none => ⟨.ret, T11 J J, [], H18 cap off n c cs, 2⟩
theorem right_loop {cs : List Value} {off c : Nat} {cap : Int} (hs : smallL (small 2 5) cs = true) {l : List Pt} (hl : l.length < 9223372036854775807) (hh : Holds cs off l) :
    ∀ (k i : Nat) (acc : Int), i + k = l.length → LoopOk Try.prog none (lp Try.prog 11 5) (T11 (.int .i64 acc) (.int .i64 i)) [] (H18 cap off l.length c cs) 2 (R11 cap off l.length c cs (rightGo (l.drop i) i acc))
  | 0, i, acc, hi => by
    have : i = l.length := by omega
    subst this
    rw [List.drop_length]
    exact loopOk_out (right_out hs) (by show Exit.exit 0 ≠ Exit.normal; simp)
  | k + 1, i, acc, hi => by
    have hil : i < l.length := by omega
    have hp : l[i]? = some l[i] := List.getElem?_eq_getElem hil
    have h1 := right_go (cap := cap) (acc := acc) (c := c) hil (hh i _ hp) hs
    rw [List.drop_eq_getElem_cons hil]
    simp only [rightGo]
    cases hb : badR l[i] i with
    | true =>
      rw [hb] at h1
      exact loopOk_out h1 (by show Exit.ret ≠ Exit.normal; simp)
    | false =>
      rw [hb] at h1
      simp only [cond_false] at h1 ⊢
      rw [show (i : Int) + 1 = ((i + 1 : Nat) : Int) by push_cast; rfl, wrap_nat (by omega)] at h1
      exact loop_step h1 (right_loop (cap := cap) (c := c) hs hl hh k (i + 1) (accR l[i] acc) (by omega))
termination_by k => k

def fits (cap : Int) : Option Int → Bool
  | some a => decide (a ≤ cap)
  | none => false
def rightS (cap : Int) (l : List Pt) : Bool := !(decide (cap < 0) || decide (cap > 65536)) && fits cap (rightGo l 0 0)
theorem right_0 {cs : List Value} {off c : Nat} {cap : Int} (hs : avL cs = true) {l : List Pt} (hl : l.length < 9223372036854775807) (hh : Holds cs off l) :
    Memo.Ok Try.prog ⟨11, 1, [qv cap 0 off l.length c], [(0, cs)], .bool (rightS cap l), [], 1⟩ := by
  have hlo := right_loop (cap := cap) (c := c) (small_avL hs) hl hh l.length 0 0 (by omega)
  rw [List.drop_zero] at hlo
  unfold rightS
  generalize rightGo l 0 0 = g at hlo ⊢
  have key : ∀ p1 p2, decide (cap < 0) = p1 → decide (cap > 65536) = p2 → Memo.Ok Try.prog ⟨11, 1, [qv cap 0 off l.length c], [(0, cs)], .bool (!(p1 || p2) && fits cap g), [], 1⟩ := by
    intro p1 p2 h1 h2
    cases p1 <;> cases p2 <;> cases g <;>
      exact memo_pure (hs := [(1, .frz), (8, .val (.bool (decide (cap < 0))) (.bool _)), (12, .val (.bool (decide (cap > 65536))) (.bool _))]) (ch := [⟨5, none, .loop (lp Try.prog 11 5), T11 (.int .i64 0) (.int .i64 0), [], H18 cap off l.length c cs, 2, _, false⟩]) 2 (evk 50) special ⟨trivial, congrArg Value.bool h1, congrArg Value.bool h2, trivial⟩ ⟨codeOk_loop hlo, trivial⟩ (by kernel_rfl) (by simp [smallH, small_avL hs]) (by kernel_rfl)
  exact key _ _ rfl rfl
end Go.Proofs.Ytddhglcmfoopnaa.queue
