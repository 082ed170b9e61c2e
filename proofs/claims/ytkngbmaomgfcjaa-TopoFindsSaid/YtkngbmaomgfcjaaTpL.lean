/- Contracts: slices.Equal, Reach. -/
import Derived.Test.YtkngbmaomgfcjaaTpK
namespace Go.Proofs.Ytkngbmaomgfcjaa.topo
open Go Go.En
set_option linter.unusedVariables false

def BH (st : List Value) (S : List Bool) : Prop := ∀ (i : Nat) b, S[i]? = some b → st[0 + i * 1]? = some (.bool b)
theorem ld_h {b i : Nat} {x : Bool} {st : List Value} {S : List Bool} {ro : Bool} (h : BH st S) (hi : S[i]? = some x) : doLoad Try.prog [(b, .cells st ro)] 4 (.pointer (some ⟨b, 0 + i * 1, none⟩)) = some (.bool x) := ld1 z4 (h i x hi)
def T19 (n m c e : Nat) (i : Int) : List Value := [.slice (some ⟨0, 0, none⟩) n c, .slice (some ⟨1, 0, none⟩) m e, J, J, .bool false, J, J, J, J, J, J, J, .int .i64 n, .int .i64 i] ++ List.replicate 12 J
def TR19 : List Value := [J, J, J, J, .bool false, J, J, J, J, J, J, J, J, J] ++ List.replicate 12 J
def H19 (s t : List Value) : Hp := [(0, .cells s true), (1, .cells t true)]
section
variable {s t : List Value} {A B : List Bool} {c e : Nat} (hs : avL s = true) (ht : avL t = true) (hA : BH s A) (hB : BH t B)
theorem H19_below (hs : avL s = true) (ht : avL t = true) : hpBelow 5 (H19 s t) = true := by
  have a1 : tidyB 5 (.cells s true) = true := small_avL hs
  have a2 : tidyB 5 (.cells t true) = true := small_avL ht
  simp [H19, hpBelow, a1, a2]
def Q19 (s t : List Value) (n m c e : Nat) (j : Int) : Bool → Res
  | true => ⟨.normal, T19 n m c e j, [], H19 s t, 5⟩
  | false => ⟨.ret, TR19, [], H19 s t, 5⟩
theorem e_go (hs : avL s = true) (ht : avL t = true) (hA : BH s A) (hB : BH t B) {i : Nat} {x y : Bool} (hx : A[i]? = some x) (hy : B[i]? = some y) :
    CodeOk Try.prog none (lp Try.prog 19 4) (T19 A.length B.length c e i) [] (H19 s t) 5 (Q19 s t A.length B.length c e (IntKind.i64.wrap (i + 1)) (x == y)) := by
  have i1 : doIndexAddr Try.prog 22 (.slice (some ⟨0, 0, none⟩) A.length c) (.int .i64 i) = _ := ix_b (lt_of hx)
  have i2 : doIndexAddr Try.prog 22 (.slice (some ⟨1, 0, none⟩) B.length e) (.int .i64 i) = _ := ix_b (lt_of hy)
  have l1 := ld_h (b := 0) (ro := true) hA hx
  have l2 := ld_h (b := 1) (ro := true) hB hy
  have hlt := lt_of hx
  cases x <;> cases y <;>
    exact code_at (hs := [(14, .val (.bool (decide ((i : Int) < A.length))) (.bool true)), (18, .ix 22 (.slice (some ⟨0, 0, none⟩) A.length c) (.int .i64 i) _), (19, .ld 4 _ 0 s true _), (22, .ix 22 (.slice (some ⟨1, 0, none⟩) B.length e) (.int .i64 i) _), (23, .ld 4 _ 1 t true _)]) (ch := []) (evk 50) special
      ⟨congrArg Value.bool (decide_eq_true (by omega)), i1, ⟨l1, _, rfl⟩, i2, ⟨l2, _, rfl⟩, trivial⟩ trivial (by kernel_rfl) (H19_below hs ht) (H19_below hs ht) (by kernel_rfl)
theorem e_out (hs : avL s = true) (ht : avL t = true) (n m : Nat) : CodeOk Try.prog none (lp Try.prog 19 4) (T19 n m c e n) [] (H19 s t) 5 ⟨.exit 0, TR19, [], H19 s t, 5⟩ :=
  code_at (hs := [(14, .val (.bool (decide ((n : Int) < n))) (.bool false))]) (ch := []) (evk 50) special ⟨congrArg Value.bool (decide_eq_false (by omega)), trivial⟩ trivial (by kernel_rfl) (H19_below hs ht) (H19_below hs ht) (by kernel_rfl)
def F19 (s t : List Value) : Bool → Res
  | true => ⟨.exit 0, TR19, [], H19 s t, 5⟩
  | false => ⟨.ret, TR19, [], H19 s t, 5⟩
theorem e_loop (hs : avL s = true) (ht : avL t = true) (hA : BH s A) (hB : BH t B) (hAl : A.length ≤ 1000) (hAB : A.length = B.length) : ∀ (k i : Nat), i + k = A.length → LoopOk Try.prog none (lp Try.prog 19 4) (T19 A.length B.length c e i) [] (H19 s t) 5 (F19 s t (A.drop i == B.drop i))
  | 0, i, h => by
    have : i = A.length := by omega
    subst this
    rw [List.drop_length, hAB, List.drop_length]
    exact loopOk_out (e_out hs ht _ _) (by show Exit.exit 0 ≠ Exit.normal; simp)
  | k + 1, i, h => by
    have hlt : i < A.length := by omega
    have hlt2 : i < B.length := by omega
    have hx : A[i]? = some A[i] := List.getElem?_eq_getElem hlt
    have hy : B[i]? = some B[i] := List.getElem?_eq_getElem hlt2
    have h1 := e_go (c := c) (e := e) hs ht hA hB hx hy
    rw [List.drop_eq_getElem_cons hlt, List.drop_eq_getElem_cons hlt2, List.cons_beq_cons]
    cases hb : (A[i] == B[i]) with
    | false => rw [hb] at h1; exact loopOk_out h1 (by show Exit.ret ≠ Exit.normal; simp)
    | true =>
      rw [hb] at h1
      rw [show (i : Int) + 1 = ((i + 1 : Nat) : Int) by push_cast; rfl, wrap_nat (by omega)] at h1
      rw [Bool.true_and]
      exact loop_step h1 (e_loop hs ht hA hB hAl hAB k (i + 1) (by omega))
termination_by k => k
theorem equal_0 (hs : avL s = true) (ht : avL t = true) (hA : BH s A) (hB : BH t B) (hAl : A.length ≤ 1000) :
    Memo.Ok Try.prog ⟨19, 2, [.slice (some ⟨0, 0, none⟩) A.length c, .slice (some ⟨1, 0, none⟩) B.length e], [(0, s), (1, t)], .bool (A == B), [], 2⟩ := by
  have hS : En.smallH 2 [(0, s), (1, t)] = true := by simp [En.smallH, small_avL hs, small_avL ht]
  by_cases hAB : A.length = B.length
  · have hlo := e_loop (c := c) (e := e) hs ht hA hB hAl hAB A.length 0 (by omega)
    rw [List.drop_zero, List.drop_zero] at hlo
    have hne : ((A.length : Int) != (B.length : Int)) = false := by rw [hAB]; simp
    generalize (A == B) = g at hlo ⊢
    cases g <;>
      exact memo_pure (hs := [(10, .val (.bool ((A.length : Int) != (B.length : Int))) (.bool false))]) (ch := [⟨4, none, .loop (lp Try.prog 19 4), T19 A.length B.length c e 0, [], H19 s t, 5, _, true⟩]) 5 (evk 50) special ⟨congrArg Value.bool hne, trivial⟩ ⟨codeOk_loop hlo, trivial⟩ (by kernel_rfl) hS (by kernel_rfl)
  · have hne : ((A.length : Int) != (B.length : Int)) = true := by simp; omega
    have hf : (A == B) = false := by
      cases h : (A == B) with
      | false => rfl
      | true => exact absurd (congrArg List.length (beq_iff_eq.1 h)) hAB
    rw [hf]
    exact memo_pure (hs := [(10, .val (.bool ((A.length : Int) != (B.length : Int))) (.bool true))]) (ch := []) 4 (evk 50) special ⟨congrArg Value.bool hne, trivial⟩ trivial (by kernel_rfl) hS (by kernel_rfl)
end
def ρab (a b : Nat) : Nat → Nat
  | 0 => a
  | _ => b
theorem equal_m {s t : List Value} {A B : List Bool} {c e : Nat} (hs : avL s = true) (ht : avL t = true) (hA : BH s A) (hB : BH t B) (hAl : A.length ≤ 1000) {p : Bool} (hp : (A == B) = p) (a b nx : Nat) (hab : a ≠ b) :
    Memo.Ok Try.prog ⟨19, nx, [.slice (some ⟨a, 0, none⟩) A.length c, .slice (some ⟨b, 0, none⟩) B.length e], [(a, s), (b, t)], .bool p, [], nx⟩ := by
  have h := equal_0 (c := c) (e := e) hs ht hA hB hAl
  rw [hp] at h
  have := memo_ren h (ρab a b) nx [(a, s), (b, t)] (by kernel_rfl) (by simp [En.smallH, small_avL hs, small_avL ht]) rfl (fun x es hc => by
    by_cases h0 : 0 = x
    · subst h0
      simp [roHp, Hp.get, ρab] at hc ⊢
      subst hc
      exact (renV_avL hs).symm
    · by_cases h1 : 1 = x
      · subst h1
        simp [roHp, Hp.get, ρab, hab] at hc ⊢
        subst hc
        exact (renV_avL ht).symm
      · simp [roHp, Hp.get, h0, h1] at hc)
  exact this
end Go.Proofs.Ytkngbmaomgfcjaa.topo
