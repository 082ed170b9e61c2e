/- Contract: sound. -/
import Derived.Test.YtkngbmaomgfcjaaTpC
namespace Go.Proofs.Ytkngbmaomgfcjaa.topo
open Go Go.En
set_option linter.unusedVariables false

def fv (f : Nat) : Value := .func (.func f) #[] #[pt 2]
def fs4 : List Value := [fv 62, fv 63, fv 64, fv 65]
def H57 (X : Cx) : Hp := [(3, .cells fs4 false), (2, .cells X.cells true), (0, .cells X.st true), (1, .cells X.lk true)]
theorem H57_below (X : Cx) {n : Nat} (hn : 4 ≤ n) : hpBelow n (H57 X) = true := by
  have h1 : hpBelow n [(3, .cells fs4 false)] = true := by
    have : (2 : Nat) < n := by omega
    simp [hpBelow, tidyB, fs4, fv, pt, En.smallL, En.small, this]; omega
  simp only [hpBelow, Bool.and_true] at h1
  have a1 : tidyB n (.cells X.cells true) = true := X.smallL (by omega) 5
  have a2 : tidyB n (.cells X.st true) = true := small_avL X.avs
  have a3 : tidyB n (.cells X.lk true) = true := small_avL X.avk
  simp only [H57, hpBelow, h1, a1, a2, a3, Bool.and_true]
  simp; omega
/-- The temporaries in the inner loop, and in the outer one. -/
def T57 (X : Cx) (i k : Int) : List Value := [J, pt 2, .bool false, pt 3, .int .i64 i, J, J, J, J, J, J, J, J, J, .int .i64 X.ls.length, .int .i64 i, J, J, .agg ⟨fs4⟩, .int .i64 k] ++ List.replicate 8 J
def U57 (X : Cx) (i : Int) : List Value := [J, pt 2, .bool false, pt 3, J, J, J, J, J, J, J, J, J, J, .int .i64 X.ls.length, .int .i64 i, J, J, J, J] ++ List.replicate 8 J
def UJ57 (X : Cx) : List Value := [J, pt 2, .bool false, pt 3, J, J, J, J, J, J, J, J, J, J, .int .i64 X.ls.length, J, J, J, J, J] ++ List.replicate 8 J
def S57 (X : Cx) (i : Int) (k : Int) : Bool → Res
  | true => ⟨.normal, T57 X i (IntKind.i64.wrap (k + 1)), [], H57 X, 5⟩
  | false => ⟨.ret, UJ57 X, [], H57 X, 5⟩
theorem in_go (X : Cx) {i : Nat} {k f : Nat} {b : Bool} (hf : (k = 0 ∧ f = 62) ∨ (k = 1 ∧ f = 63) ∨ (k = 2 ∧ f = 64) ∨ (k = 3 ∧ f = 65)) (m : Memo.Ok Try.prog ⟨f, 3, [.int .i64 i, pt 2], X.V3, .bool b, [], 3⟩) :
    CodeOk Try.prog none (lp Try.prog 57 6) (T57 X i k) [] (H57 X) 5 (S57 X i k b) := by
  have m1 := Cx.at3 m 5 (by kernel_rfl) rfl rfl
  rcases hf with ⟨rfl, rfl⟩ | ⟨rfl, rfl⟩ | ⟨rfl, rfl⟩ | ⟨rfl, rfl⟩ <;> cases b <;>
    exact code_at (hs := [(24, .call _)]) (ch := []) (evk 50) special ⟨m1, trivial⟩ trivial (by kernel_rfl) (H57_below X (by omega)) (H57_below X (by omega)) (by kernel_rfl)
theorem in_out (X : Cx) (i : Nat) : CodeOk Try.prog none (lp Try.prog 57 6) (T57 X i 4) [] (H57 X) 5 ⟨.exit 2, U57 X i, [], H57 X, 5⟩ :=
  code_at (hs := []) (ch := []) (evk 50) special trivial trivial (by kernel_rfl) (H57_below X (by omega)) (H57_below X (by omega)) (by kernel_rfl)
def linkOk (X : Cx) (i : Nat) (l : Lk) : Bool := k1 X.N l && (k2 (X.S.getD l.a.toNat false) (X.S.getD l.b.toNat false) && (k3 X.ls i l && k4 l))
def I57 (X : Cx) (i : Nat) : Bool → Res
  | true => ⟨.exit 2, U57 X i, [], H57 X, 5⟩
  | false => ⟨.ret, UJ57 X, [], H57 X, 5⟩
theorem node_at {X : Cx} (hN : X.N = X.S.length) {n : Int} (h : nodeS X.N n = true) : ∃ a : Nat, n = a ∧ X.S[a]? = some (X.S.getD n.toNat false) := by
  simp only [nodeS, Bool.and_eq_true, decide_eq_true_eq] at h
  refine ⟨n.toNat, by omega, ?_⟩
  have hlt : n.toNat < X.S.length := by omega
  rw [List.getD_eq_getElem?_getD, List.getElem?_eq_getElem hlt]
  rfl
theorem in_all (X : Cx) (hN : X.N = X.S.length) (hd : X.ls.length ≤ X.d) (hd2 : X.d < openCap) {i : Nat} {l : Lk} (hi : X.ls[i]? = some l) : LoopOk Try.prog none (lp Try.prog 57 6) (T57 X i 0) [] (H57 X) 5 (I57 X i (linkOk X i l)) := by
  unfold linkOk
  have s1 := in_go X (k := 0) (.inl ⟨rfl, rfl⟩) (k1_0 X hi)
  cases b1 : k1 X.N l with
  | false => rw [b1] at s1; exact loopOk_out s1 (by show Exit.ret ≠ Exit.normal; simp)
  | true =>
    rw [b1] at s1
    refine loop_step s1 ?_
    have hk := b1
    simp only [k1, Bool.and_eq_true] at hk
    obtain ⟨a, ha, hx⟩ := node_at hN hk.1.1
    obtain ⟨b, hb, hy⟩ := node_at hN hk.1.2
    have s2 := in_go X (k := 1) (.inr (.inl ⟨rfl, rfl⟩)) (k2_0 X hi ha hb hx hy)
    cases b2 : k2 (X.S.getD l.a.toNat false) (X.S.getD l.b.toNat false) with
    | false => rw [b2] at s2; exact loopOk_out s2 (by show Exit.ret ≠ Exit.normal; simp)
    | true =>
      rw [b2] at s2
      refine loop_step s2 ?_
      have s3 := in_go X (k := 2) (.inr (.inr (.inl ⟨rfl, rfl⟩))) (k3_0 X hd hd2 hi)
      cases b3 : k3 X.ls i l with
      | false => rw [b3] at s3; exact loopOk_out s3 (by show Exit.ret ≠ Exit.normal; simp)
      | true =>
        rw [b3] at s3
        refine loop_step s3 ?_
        have s4 := in_go X (k := 3) (.inr (.inr (.inr ⟨rfl, rfl⟩))) (k4_0 X hi)
        cases b4 : k4 l with
        | false => rw [b4] at s4; exact loopOk_out s4 (by show Exit.ret ≠ Exit.normal; simp)
        | true =>
          rw [b4] at s4
          exact loop_step s4 (loopOk_out (in_out X i) (by show Exit.exit 2 ≠ Exit.normal; simp))
def O57 (X : Cx) (i : Int) : Bool → Res
  | true => ⟨.normal, U57 X i, [], H57 X, 5⟩
  | false => ⟨.ret, UJ57 X, [], H57 X, 5⟩
theorem snd_go (X : Cx) (hN : X.N = X.S.length) (hd : X.ls.length ≤ X.d) (hd2 : X.d < openCap) {i : Nat} {l : Lk} (hi : X.ls[i]? = some l) :
    CodeOk Try.prog none (lp Try.prog 57 3) (U57 X i) [] (H57 X) 5 (O57 X (IntKind.i64.wrap (i + 1)) (linkOk X i l)) := by
  have hin := in_all X hN hd hd2 hi
  have hlt := lt_of hi
  generalize linkOk X i l = b at hin ⊢
  cases b <;>
    exact code_at (hs := [(16, .val (.bool (decide ((i : Int) < X.ls.length))) (.bool true))]) (ch := [⟨6, none, .loop (lp Try.prog 57 6), T57 X i 0, [], H57 X, 5, _, true⟩]) (evk 50) special
      ⟨congrArg Value.bool (decide_eq_true (by omega)), trivial⟩ ⟨codeOk_loop hin, trivial⟩ (by kernel_rfl) (H57_below X (by omega)) (H57_below X (by omega)) (by kernel_rfl)
theorem snd_out (X : Cx) : CodeOk Try.prog none (lp Try.prog 57 3) (U57 X X.ls.length) [] (H57 X) 5 ⟨.exit 0, UJ57 X, [], H57 X, 5⟩ :=
  code_at (hs := [(16, .val (.bool (decide ((X.ls.length : Int) < X.ls.length))) (.bool false))]) (ch := []) (evk 50) special
      ⟨congrArg Value.bool (decide_eq_false (by omega)), trivial⟩ trivial (by kernel_rfl) (H57_below X (by omega)) (H57_below X (by omega)) (by kernel_rfl)
def sndGo (X : Cx) : List Lk → Nat → Bool
  | [], _ => true
  | l :: r, i => linkOk X i l && sndGo X r (i + 1)
def F57 (X : Cx) : Bool → Res
  | true => ⟨.exit 0, UJ57 X, [], H57 X, 5⟩
  | false => ⟨.ret, UJ57 X, [], H57 X, 5⟩
theorem snd_loop (X : Cx) (hN : X.N = X.S.length) (hd : X.ls.length ≤ X.d) (hd2 : X.d < openCap) : ∀ (r i : Nat), i + r = X.ls.length → LoopOk Try.prog none (lp Try.prog 57 3) (U57 X i) [] (H57 X) 5 (F57 X (sndGo X (X.ls.drop i) i))
  | 0, i, h => by
    have : i = X.ls.length := by omega
    subst this
    rw [List.drop_length]
    exact loopOk_out (snd_out X) (by show Exit.exit 0 ≠ Exit.normal; simp)
  | r + 1, i, h => by
    have hlt : i < X.ls.length := by omega
    have hi : X.ls[i]? = some X.ls[i] := List.getElem?_eq_getElem hlt
    have h1 := snd_go X hN hd hd2 hi
    rw [List.drop_eq_getElem_cons hlt]
    simp only [sndGo]
    cases hb : linkOk X i X.ls[i] with
    | false => rw [hb] at h1; exact loopOk_out h1 (by show Exit.ret ≠ Exit.normal; simp)
    | true =>
      rw [hb] at h1
      rw [show (i : Int) + 1 = ((i + 1 : Nat) : Int) by push_cast; rfl, wrap_nat (by have := X.hL; omega)] at h1
      exact loop_step h1 (snd_loop X hN hd hd2 r (i + 1) (by omega))
termination_by r => r
def soundS (X : Cx) : Bool := sndGo X X.ls 0
theorem sound_0 (X : Cx) (hN : X.N = X.S.length) (hd : X.ls.length ≤ X.d) (hd2 : X.d < openCap) : Memo.Ok Try.prog ⟨57, 2, [X.v], X.V, .bool (soundS X), [], 2⟩ := by
  have hlo := snd_loop X hN hd hd2 X.ls.length 0 (by omega)
  rw [List.drop_zero] at hlo
  unfold soundS
  generalize sndGo X X.ls 0 = b at hlo ⊢
  cases b <;>
    exact memo_pure (hs := [(1, .frz)]) (ch := [⟨3, none, .loop (lp Try.prog 57 3), U57 X 0, [], H57 X, 5, _, true⟩]) 5 (evk 50) special ⟨trivial, trivial⟩ ⟨codeOk_loop hlo, trivial⟩ (X.hV rfl) (X.smallH 2) (by kernel_rfl)
end Go.Proofs.Ytkngbmaomgfcjaa.topo
