/- Contracts: slices.Equal of two equal lists of ints; Ports, Find and the reference's at other names. -/
import Derived.Test.YtkngbmaomgfcjaaTpV
namespace Go.Proofs.Ytkngbmaomgfcjaa.topo
open Go Go.En
set_option linter.unusedVariables false

def TE15 (n c e : Nat) (i : Int) : List Value := [.slice (some ⟨0, 0, none⟩) n c, .slice (some ⟨1, 0, none⟩) n e, J, J, .bool false, J, J, J, J, J, J, J, .int .i64 n, .int .i64 i] ++ List.replicate 12 J
def TRE15 : List Value := [J, J, J, J, .bool false, J, J, J, J, J, J, J, J, J] ++ List.replicate 12 J
def HE15 (L : List Int) : Hp := [(0, .cells (ic L) true), (1, .cells (ic L) true)]
theorem HE15_below (L : List Int) : hpBelow 5 (HE15 L) = true := by
  have a1 : tidyB 5 (.cells (ic L) true) = true := small_avL (ic_av L)
  simp [HE15, hpBelow, a1]
theorem qe_go {L : List Int} {c e i : Nat} (h : i < L.length) :
    CodeOk Try.prog none (lp Try.prog 15 4) (TE15 L.length c e i) [] (HE15 L) 5 ⟨.normal, TE15 L.length c e (IntKind.i64.wrap (i + 1)), [], HE15 L, 5⟩ := by
  have i1 : doIndexAddr Try.prog 28 (.slice (some ⟨0, 0, none⟩) L.length c) (.int .i64 i) = _ := ix_i h
  have i2 : doIndexAddr Try.prog 28 (.slice (some ⟨1, 0, none⟩) L.length e) (.int .i64 i) = _ := ix_i h
  have l1 := ld_i (b := 0) (ro := true) h
  have l2 := ld_i (b := 1) (ro := true) h
  have hne : (L.getD i 0 != L.getD i 0) = false := by simp
  exact code_at (hs := [(14, .val (.bool (decide ((i : Int) < L.length))) (.bool true)), (18, .ix 28 (.slice (some ⟨0, 0, none⟩) L.length c) (.int .i64 i) _), (19, .ld 3 _ 0 (ic L) true _), (22, .ix 28 (.slice (some ⟨1, 0, none⟩) L.length e) (.int .i64 i) _), (23, .ld 3 _ 1 (ic L) true _), (24, .val (.bool (L.getD i 0 != L.getD i 0)) (.bool false))]) (ch := []) (evk 50) special
    ⟨congrArg Value.bool (decide_eq_true (by omega)), i1, ⟨l1, _, rfl⟩, i2, ⟨l2, _, rfl⟩, congrArg Value.bool hne, trivial⟩ trivial (by kernel_rfl) (HE15_below L) (HE15_below L) (by kernel_rfl)
theorem qe_out {L : List Int} {c e : Nat} : CodeOk Try.prog none (lp Try.prog 15 4) (TE15 L.length c e L.length) [] (HE15 L) 5 ⟨.exit 0, TRE15, [], HE15 L, 5⟩ :=
  code_at (hs := [(14, .val (.bool (decide ((L.length : Int) < L.length))) (.bool false))]) (ch := []) (evk 50) special ⟨congrArg Value.bool (decide_eq_false (by omega)), trivial⟩ trivial (by kernel_rfl) (HE15_below L) (HE15_below L) (by kernel_rfl)
theorem qe_loop {L : List Int} {c e : Nat} (hL : L.length ≤ 1000) : ∀ (k i : Nat), i + k = L.length → LoopOk Try.prog none (lp Try.prog 15 4) (TE15 L.length c e i) [] (HE15 L) 5 ⟨.exit 0, TRE15, [], HE15 L, 5⟩
  | 0, i, h => by
    have : i = L.length := by omega
    subst this
    exact loopOk_out qe_out (by show Exit.exit 0 ≠ Exit.normal; simp)
  | k + 1, i, h => by
    have h1 := qe_go (L := L) (c := c) (e := e) (i := i) (by omega)
    rw [show (i : Int) + 1 = ((i + 1 : Nat) : Int) by push_cast; rfl, wrap_nat (by omega)] at h1
    exact loop_step h1 (qe_loop hL k (i + 1) (by omega))
termination_by k => k
theorem eqi_0 {L : List Int} {c e : Nat} (hL : L.length ≤ 1000) : Memo.Ok Try.prog ⟨15, 2, [.slice (some ⟨0, 0, none⟩) L.length c, .slice (some ⟨1, 0, none⟩) L.length e], [(0, ic L), (1, ic L)], .bool true, [], 2⟩ := by
  have hS : En.smallH 2 [(0, ic L), (1, ic L)] = true := by simp [En.smallH, small_avL (ic_av L)]
  have hlo := qe_loop (c := c) (e := e) hL L.length 0 (by omega)
  have hne : ((L.length : Int) != (L.length : Int)) = false := by simp
  exact memo_pure (hs := [(10, .val (.bool ((L.length : Int) != (L.length : Int))) (.bool false))]) (ch := [⟨4, none, .loop (lp Try.prog 15 4), TE15 L.length c e 0, [], HE15 L, 5, _, true⟩]) 5 (evk 50) special ⟨congrArg Value.bool hne, trivial⟩ ⟨codeOk_loop hlo, trivial⟩ (by kernel_rfl) hS (by kernel_rfl)
theorem eqi_nil : Memo.Ok Try.prog ⟨15, 0, [.slice none 0 0, .slice none 0 0], [], .bool true, [], 0⟩ :=
  memo_pure (hs := []) (ch := []) 3 (evk 50) special trivial trivial (by kernel_rfl) (by kernel_rfl) (by kernel_rfl)
def VL (a : Nat) : List Int → List (Nat × List Value)
  | [] => []
  | x :: r => [(a, ic (x :: r))]
theorem eqi_m (L : List Int) (hL : L.length ≤ 1000) (a b nx : Nat) (hab : a ≠ b) : Memo.Ok Try.prog ⟨15, nx, [slL a L, slL b L], VL a L ++ VL b L, .bool true, [], nx⟩ := by
  cases L with
  | nil => exact memo_any eqi_nil nx (by kernel_rfl) rfl rfl
  | cons x r =>
    have := memo_ren (eqi_0 (L := x :: r) (c := oc1) (e := oc1) hL) (ρab a b) nx [(a, ic (x :: r)), (b, ic (x :: r))] (by kernel_rfl) (by simp [En.smallH, small_avL (ic_av _)]) rfl (fun y es hc => by
      by_cases h0 : 0 = y
      · subst h0
        simp [roHp, Hp.get, ρab] at hc ⊢
        subst hc
        exact (ic_ren _ _).symm
      · by_cases h1 : 1 = y
        · subst h1
          simp [roHp, Hp.get, ρab, hab] at hc ⊢
          subst hc
          exact (ic_ren _ _).symm
        · simp [roHp, Hp.get, h0, h1] at hc)
    exact this
theorem Cx.atG {X : Cx} {f : FuncId} {rest : List Value} {v v' : Value} {n' nx' : Nat} {new new' : List (Nat × List Value)} (h : Memo.Ok Try.prog ⟨f, 2, X.v :: rest, X.V, v, new, n'⟩) (nx : Nat) (hc : (En.smallL (En.small 2 5) rest && En.small n' 5 v && inNew 2 n' new) = true) (hn : En.smallH n' new = true)
    (h1 : rest.map (renV (shift (fun b => b) 2 nx) 5) = rest) (h2 : renV (shift (fun b => b) 2 nx) 5 v = v') (h3 : renH (shift (fun b => b) 2 nx) new = new') (h4 : nx + (n' - 2) = nx') : Memo.Ok Try.prog ⟨f, nx, X.v :: rest, X.V, v', new', nx'⟩ := by
  simp only [Bool.and_eq_true] at hc
  have hb : below 2 X.V = true := by kernel_rfl
  have := memo_ren h (fun b => b) nx X.V (by simp only [En.smallL, X.small (Nat.le_refl 2), hc.1.1, hc.1.2, hc.2, hb, Bool.and_self]) (X.smallH 2) hn (fun b cs hb => by
    by_cases h0 : 0 = b
    · subst h0
      simp [Cx.V, roHp, Hp.get] at hb ⊢
      subst hb
      exact (renV_avL X.avs).symm
    · by_cases h1 : 1 = b
      · subst h1
        simp [Cx.V, roHp, Hp.get] at hb ⊢
        subst hb
        exact (renV_avL X.avk).symm
      · simp [Cx.V, roHp, Hp.get, h0, h1] at hb)
  simpa [X.ren, h1, h2, h3, h4] using this
theorem newL_small (n k : Nat) (L : List Int) : En.smallH n (newL k L) = true := by
  cases L with
  | nil => rfl
  | cons x r => simp [newL, En.smallH, small_avL (ic_av _)]
theorem newL_ren {σ : Nat → Nat} {k k' : Nat} (h : σ k = k') (L : List Int) : renH σ (newL k L) = newL k' L := by
  cases L with
  | nil => rfl
  | cons x r =>
    have := ic_ren σ (x :: r)
    simp only [newL, renH, h, this]
theorem portsR_m (X : Cx) (a : Int) (h24 : X.ls.length ≤ 24) {L : List Int} (hL : portsS X a = L) : Memo.Ok Try.prog ⟨16, 18, [X.v, .int .i64 a], X.V, slL 19 L, newL 19 L, 23⟩ := by
  have h := portsR_0 X a h24
  rw [hL] at h
  refine Cx.atG h 18 ?_ (newL_small _ _ _) rfl ?_ (newL_ren rfl L) rfl <;> cases L <;> first | kernel_rfl | rfl
theorem ports_m (X : Cx) (hd : X.ls.length ≤ X.d) (hd2 : X.d < openCap) (a : Int) {c n1 : Bool} {L : List Int} (h24 : c = true → X.ls.length ≤ 24) (hc : checkS X = c) (h1 : nodeS X.N a = n1) (hL : portsS X a = L) :
    Memo.Ok Try.prog ⟨12, 3, [X.v, .int .i64 a], X.V, portsV 10 c n1 L, (bif c && n1 then newL 10 L else []), (bif c && n1 then 18 else 5)⟩ := by
  have h := ports_0 X hd hd2 a h24 hc h1 hL
  cases c
  · cases n1 <;> exact Cx.atG h 3 (by kernel_rfl) rfl rfl rfl rfl rfl
  · cases n1
    · exact Cx.atG h 3 (by kernel_rfl) rfl rfl rfl rfl rfl
    · refine Cx.atG h 3 ?_ (newL_small _ _ _) rfl ?_ (newL_ren rfl L) rfl <;> cases L <;> first | kernel_rfl | rfl
theorem find_m (X : Cx) (hd : X.ls.length ≤ X.d) (hd2 : X.d < openCap) (a b : Int) {c n1 n2 : Bool} {g : Option Nat} (hc : checkS X = c) (h1 : nodeS X.N a = n1) (h2 : nodeS X.N b = n2) (hg : findS X a b = g) (nx : Nat) :
    Memo.Ok Try.prog ⟨13, nx, [X.v, .int .i64 a, .int .i64 b], X.V, findV c n1 n2 g, [], nx⟩ := by
  have h := find_0 X hd hd2 a b hc h1 h2 hg
  cases c <;> cases n1 <;> cases n2 <;> cases g <;> exact Cx.at h nx (by kernel_rfl) rfl rfl
theorem findR_m (X : Cx) (a b : Int) {g : Option Nat} (hg : findS X a b = g) (nx : Nat) : Memo.Ok Try.prog ⟨17, nx, [X.v, .int .i64 a, .int .i64 b], X.V, .int .i64 (optI g), [], nx⟩ :=
  Cx.at (hg ▸ findR_0 X a b) nx rfl rfl rfl
theorem portsS_len (X : Cx) (a : Int) : ∀ (k p : Nat) (L : List Int), (colS X a k p L).length ≤ L.length + k
  | 0, p, L => by simp [colS]
  | k + 1, p, L => by
    have := portsS_len X a k (p + 1) (bif ansAt X 42 p == a then L ++ [(p : Int)] else L)
    simp only [colS]
    cases h : (ansAt X 42 p == a) <;> simp [h] at this ⊢ <;> omega
end Go.Proofs.Ytkngbmaomgfcjaa.topo
