/- Contracts: parts, Check. -/
import Derived.Test.YtddhglcmfoopnaaFnE
import Derived.Test.YtddhglcmfoopnaaEnOI
namespace Go.Proofs.Ytddhglcmfoopnaa.queue
open Go Go.En
set_option linter.unusedVariables false

def pt (b : Nat) : Value := .pointer (some ⟨b, 0, none⟩)
def qc (cap : Int) (off n c : Nat) : List Value := [.int .i64 cap, .slice (some ⟨0, off, none⟩) n c]
theorem parts_4 (cap : Int) (off n c : Nat) : Memo.Ok Try.prog ⟨30, 4, [qv cap 0 off n c], [], .func (.func 35) #[] #[pt 4], [(4, qc cap off n c)], 5⟩ :=
  memo_new (hs := []) (ch := []) (evk 50) special trivial trivial (by kernel_rfl)

def T12 (cap : Int) (off n c : Nat) : List Value := [qv cap 0 off n c, pt 1, .int .i64 0, pt 2, pt 3, undef, undef, pt 1, .int .i64 cap, .bool true, .bool false, qv cap 0 off n c, qv cap 0 off n c, qv cap 0 off n c, .func (.func 35) #[] #[pt 4]] ++ List.replicate 22 undef
def L12 (P : Program) (cap : Int) (off n c : Nat) (s : LoopState) (p : Option Code) : Loop := { newLoop (T12 cap off n c) (rfP (rf P 12 8)) (rfA (rf P 12 8)) (rfB (rf P 12 8)) 5 with state := s, pending := p }
def H12 (cap : Int) (off n c : Nat) (cs : List Value) (b : Bool) : Hp := [(4, .cells (qc cap off n c) false), (3, .cells [.bool b] false), (2, .cells (qc cap off n c) false), (1, .cells (qc cap off n c) true), (0, .cells cs true)]
def G12 (P : Program) (cap : Int) (off n c : Nat) (cs : List Value) (b : Bool) : Hp := (6, .loop (L12 P cap off n c (bif b then .done else .ready) (bif b then some (.exit 0) else none))) :: (5, .defd) :: H12 cap off n c cs b
def Y6 : Value := .func (.yield 6) #[] #[]
def badC (p : Pt) (i : Nat) : Bool := !partC p || (p.rest && decide ((i : Int) > 0))

theorem yield_12 {cap : Int} {off n c : Nat} {cs : List Value} {p : Pt} {i : Nat} {bad : Bool} (hb : badC p i = bad) :
    Hint.Ok Try.prog (.any (opAt Try.prog 35 3 3) [Y6, .int .i64 i, p.v] ((8, .cells p.cells false) :: G12 Try.prog cap off n c cs false) 9 (.bool !bad) ((9, .cells p.cells false) :: (8, .cells p.cells false) :: G12 Try.prog cap off n c cs bad) 10) := by
  obtain ⟨⟨a, b, c', d, e⟩, left, rest⟩ := p
  have key : ∀ p1 p2, partC ⟨⟨a, b, c', d, e⟩, left, rest⟩ = p1 → decide ((i : Int) > 0) = p2 → (!p1 || (rest && p2)) = bad →
      Hint.Ok Try.prog (.any (opAt Try.prog 35 3 3) [Y6, .int .i64 i, Pt.v ⟨⟨a, b, c', d, e⟩, left, rest⟩] ((8, .cells (Pt.cells ⟨⟨a, b, c', d, e⟩, left, rest⟩) false) :: G12 Try.prog cap off n c cs false) 9 (.bool !bad) ((9, .cells (Pt.cells ⟨⟨a, b, c', d, e⟩, left, rest⟩) false) :: (8, .cells (Pt.cells ⟨⟨a, b, c', d, e⟩, left, rest⟩) false) :: G12 Try.prog cap off n c cs bad) 10) := by
    intro p1 p2 h1 h2 h3
    subst h3
    have m1 := checkPart_m _ h1 10
    cases p1 <;> cases p2 <;> cases rest <;>
      exact yield_by (hs := [(18, .call _), (25, .val (.bool (decide ((i : Int) > 0))) (.bool _))]) (ch := []) (cf := .tmp 14) (args := #[.tmp 15, .tmp 16]) (ats := #[3, 28]) (l := 6) (evk 50) special ⟨m1, congrArg Value.bool h2, trivial⟩ trivial (by kernel_rfl) (by kernel_rfl)
  exact key _ _ rfl rfl hb

theorem small_le {cs : List Value} (hs : avL cs = true) (n : Nat) : smallL (small n 5) cs = true := small_avL hs
theorem G12_below {cap : Int} {off n c : Nat} {cs : List Value} {b : Bool} (hs : avL cs = true) : hpBelow 8 (G12 Try.prog cap off n c cs b) = true := by
  have h1 : hpBelow 8 ((6, .loop (L12 Try.prog cap off n c (bif b then .done else .ready) (bif b then some (.exit 0) else none))) :: (5, .defd) :: []) = true := by kernel_rfl
  have h2 : hpBelow 8 (H12 cap off n c cs b) = true := by simp [H12, qc, hpBelow, tidyB, smallL, small, small_le hs]
  simp only [G12, hpBelow, Bool.and_eq_true, Bool.and_true] at h1 ⊢
  exact ⟨h1.1, h1.2, h2⟩
def T35 (off n c : Nat) (i : Int) : List Value := [Y6, pt 4, J, J, J, J, J, .slice (some ⟨0, off, none⟩) n c, .int .i64 n, .int .i64 i] ++ List.replicate 10 J
def TJ35 (off n c : Nat) : List Value := [Y6, pt 4, J, J, J, J, J, .slice (some ⟨0, off, none⟩) n c, .int .i64 n, J] ++ List.replicate 10 J
def R35 (P : Program) (cap : Int) (off n c : Nat) (cs : List Value) (i : Int) : Bool → Res
  | true => ⟨.ret, TJ35 off n c, [], G12 P cap off n c cs true, 8⟩
  | false => ⟨.normal, T35 off n c i, [], G12 P cap off n c cs false, 8⟩
theorem chk_go {cap : Int} {off n c : Nat} {cs : List Value} {i : Nat} {p : Pt} (hi : i < n) (hp : ∀ (j : Nat) v, p.cells[j]? = some v → cs[off + i * 7 + j]? = some v) (hs : avL cs = true) {bad : Bool} (hb : badC p i = bad) :
    CodeOk Try.prog none (lp Try.prog 35 1) (T35 off n c i) [] (G12 Try.prog cap off n c cs false) 8 (R35 Try.prog cap off n c cs (IntKind.i64.wrap (i + 1)) bad) := by
  have y := yield_12 (cap := cap) (off := off) (n := n) (c := c) (cs := cs) hb
  cases bad <;>
    exact code_at (hs := [(10, .val (.bool (decide ((i : Int) < n))) (.bool true)), (12, .ix 22 (.slice (some ⟨0, off, none⟩) n c) (.int .i64 i) _), (13, .ld 28 _ 0 cs true p.v), (17, .any _ _ _ _ _ _ _)]) (ch := []) (evk 50) special
      ⟨congrArg Value.bool (decide_eq_true (by omega)), ix22 hi, ⟨ld28 hp, _, rfl⟩, y, trivial⟩ trivial (by kernel_rfl) (G12_below hs) (G12_below hs) (by kernel_rfl)
theorem chk_out {cap : Int} {off n c : Nat} {cs : List Value} (hs : avL cs = true) :
    CodeOk Try.prog none (lp Try.prog 35 1) (T35 off n c n) [] (G12 Try.prog cap off n c cs false) 8 ⟨.exit 0, TJ35 off n c, [], G12 Try.prog cap off n c cs false, 8⟩ :=
  code_at (hs := [(10, .val (.bool (decide ((n : Int) < n))) (.bool false))]) (ch := []) (evk 50) special
    ⟨congrArg Value.bool (decide_eq_false (by omega)), trivial⟩ trivial (by kernel_rfl) (G12_below hs) (G12_below hs) (by kernel_rfl)
def anyBad : List Pt → Nat → Bool
  | [], _ => false
  | p :: l, i => badC p i || anyBad l (i + 1)
def Z35 (P : Program) (cap : Int) (off n c : Nat) (cs : List Value) (b : Bool) : Res := ⟨bif b then .ret else .exit 0, TJ35 off n c, [], G12 P cap off n c cs b, 8⟩
theorem chk_loop {cap : Int} {off c : Nat} {cs : List Value} (hs : avL cs = true) {l : List Pt} (hl : l.length < 9223372036854775807) (hh : Holds cs off l) :
    ∀ (k i : Nat), i + k = l.length → LoopOk Try.prog none (lp Try.prog 35 1) (T35 off l.length c i) [] (G12 Try.prog cap off l.length c cs false) 8 (Z35 Try.prog cap off l.length c cs (anyBad (l.drop i) i))
  | 0, i, hi => by
    have : i = l.length := by omega
    subst this
    rw [List.drop_length]
    exact loopOk_out (chk_out hs) (by show Exit.exit 0 ≠ Exit.normal; simp)
  | k + 1, i, hi => by
    have hil : i < l.length := by omega
    have hp : l[i]? = some l[i] := List.getElem?_eq_getElem hil
    rw [List.drop_eq_getElem_cons hil]
    simp only [anyBad]
    cases hb : badC l[i] i with
    | true => exact loopOk_out (chk_go hil (hh i _ hp) hs hb) (by show Exit.ret ≠ Exit.normal; simp)
    | false =>
      have h1 := chk_go (cap := cap) (c := c) hil (hh i _ hp) hs hb
      rw [show (i : Int) + 1 = ((i + 1 : Nat) : Int) by push_cast; rfl, wrap_nat (by omega)] at h1
      exact loop_step h1 (chk_loop hs hl hh k (i + 1) (by omega))
termination_by k => k
theorem call_35 {cap : Int} {off c : Nat} {cs : List Value} (hs : avL cs = true) {l : List Pt} (hl : l.length < 9223372036854775807) (hh : Holds cs off l) {b : Bool} (hb : anyBad l 0 = b) :
    (∃ fn, Try.prog.funcs[35]? = some fn ∧ fn.body.isSome = true) ∧ CallOk Try.prog 35 ([] ++ [Y6] ++ [pt 4]) (G12 Try.prog cap off l.length c cs false) 7 (.tuple #[]) (G12 Try.prog cap off l.length c cs b) 8 := by
  have hlo := chk_loop (cap := cap) (c := c) hs hl hh l.length 0 (by omega)
  rw [List.drop_zero, hb] at hlo
  cases b <;>
    exact call_by (hs := []) (ch := [⟨1, none, .loop (lp Try.prog 35 1), T35 off l.length c 0, [], G12 Try.prog cap off l.length c cs false, 8, _, true⟩]) (evk 50) special trivial ⟨codeOk_loop hlo, trivial⟩ (by kernel_rfl)
def R12 (cap : Int) (off n c : Nat) (cs : List Value) (b : Bool) : Res := ⟨bif b then .exit 0 else .normal, T12 cap off n c, [5], (5, .defd) :: H12 cap off n c cs b, 8⟩
theorem range_12 {cap : Int} {off c : Nat} {cs : List Value} (hs : avL cs = true) {l : List Pt} (hl : l.length < 9223372036854775807) (hh : Holds cs off l) {b : Bool} (hb : anyBad l 0 = b) :
    CodeOk Try.prog none (rf Try.prog 12 8) (T12 cap off l.length c) [] (H12 cap off l.length c cs false) 5 (R12 cap off l.length c cs b) := by
  have h := call_35 (cap := cap) (c := c) hs hl hh hb
  have hL : (G12 Try.prog cap off l.length c cs b).get 6 = some (.loop (L12 Try.prog cap off l.length c (bif b then .done else .ready) (bif b then some (.exit 0) else none))) := rfl
  cases b <;> exact range_by special (by kernel_rfl) (by kernel_rfl) h hL (by kernel_rfl)
def checkS (cap : Int) (l : List Pt) : Bool := within cap 0 65536 && !(anyBad l 0 || decide (sumW freshL l 0 > cap))
theorem check_0 {cs : List Value} {off c : Nat} {cap : Int} (hs : avL cs = true) {l : List Pt} (hl : l.length < 9223372036854775807) (hh : Holds cs off l) :
    Memo.Ok Try.prog ⟨12, 1, [qv cap 0 off l.length c], [(0, cs)], .int .i64 (bif checkS cap l then 0 else 461), [], 1⟩ := by
  have key : ∀ p1 p2 p3, within cap 0 65536 = p1 → anyBad l 0 = p2 → decide (sumW freshL l 0 > cap) = p3 → Memo.Ok Try.prog ⟨12, 1, [qv cap 0 off l.length c], [(0, cs)], .int .i64 (bif p1 && !(p2 || p3) then 0 else 461), [], 1⟩ := by
    intro p1 p2 p3 h1 h2 h3
    have m1 := within_m _ _ _ h1 2
    have r := range_12 (cap := cap) (c := c) hs hl hh h2
    have m3 := memo_blk (freshL_0 (c := c) (cap := cap) hs hl hh) hs 0 8 (by kernel_rfl) rfl rfl
    cases p1
    · exact memo_pure (hs := [(1, .frz), (9, .call _)]) (ch := []) 2 (evk 50) special ⟨trivial, m1, trivial⟩ trivial (by kernel_rfl) (by simp [smallH, small_avL hs]) (by kernel_rfl)
    cases p2 <;> cases p3 <;>
      exact memo_pure (hs := [(1, .frz), (9, .call _), (14, .call _), (31, .call _), (35, .val (.bool (decide (sumW freshL l 0 > cap))) (.bool _))]) (ch := [⟨8, none, rf Try.prog 12 8, T12 cap off l.length c, [], H12 cap off l.length c cs false, 5, _, true⟩]) 8 (evk 50) special ⟨trivial, m1, parts_4 cap off l.length c, m3, congrArg Value.bool h3, trivial⟩ ⟨r, trivial⟩ (by kernel_rfl) (by simp [smallH, small_avL hs]) (by kernel_rfl)
  exact key _ _ _ rfl rfl rfl
end Go.Proofs.Ytddhglcmfoopnaa.queue
