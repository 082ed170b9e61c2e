/- Contracts: slices.Contains, the counts of Check. -/
import Derived.Test.YtkngbmaomgfcjaaTpE
namespace Go.Proofs.Ytkngbmaomgfcjaa.topo
open Go Go.En
set_option linter.unusedVariables false

def T51 (n c : Nat) (i : Int) : List Value := [.slice (some ⟨0, 0, none⟩) n c, .bool false, J, J, J, J, J, .int .i64 n, .int .i64 i] ++ List.replicate 10 J
def TR51 (n c : Nat) (v : Int) : List Value := [.slice (some ⟨0, 0, none⟩) n c, .bool false, J, J, .int .i64 v, J, J, .int .i64 n, J] ++ List.replicate 10 J
def H51 (R : List Bool) : Hp := [(0, .cells (bc R) true)]
theorem H51_below (R : List Bool) : hpBelow 2 (H51 R) = true := by
  have a4 : tidyB 2 (.cells (bc R) true) = true := small_avL (bc_av R)
  simp [H51, hpBelow, a4]
def Q51 (R : List Bool) (c : Nat) (i j : Int) : Bool → Res
  | true => ⟨.normal, T51 R.length c j, [], H51 R, 2⟩
  | false => ⟨.ret, TR51 R.length c i, [], H51 R, 2⟩
theorem ix_go {R : List Bool} {c i : Nat} {b : Bool} (hi : R[i]? = some b) : CodeOk Try.prog none (lp Try.prog 51 2) (T51 R.length c i) [] (H51 R) 2 (Q51 R c i (IntKind.i64.wrap (i + 1)) b) := by
  have hlt := lt_of hi
  have l0 : doLoad Try.prog [(0, .cells (bc R) true)] 4 (.pointer (some ⟨0, 0 + i * 1, none⟩)) = some (.bool b) := ld1 z4 (bc_get hi)
  have hx : doIndexAddr Try.prog 22 (.slice (some ⟨0, 0, none⟩) R.length c) (.int .i64 i) = _ := ix_b hlt
  cases b <;>
    exact code_at (hs := [(9, .val (.bool (decide ((i : Int) < R.length))) (.bool true)), (14, .ix 22 (.slice (some ⟨0, 0, none⟩) R.length c) (.int .i64 i) _), (15, .ld 4 _ 0 (bc R) true _)]) (ch := []) (evk 50) special ⟨congrArg Value.bool (decide_eq_true (by omega)), hx, ⟨l0, _, rfl⟩, trivial⟩ trivial (by kernel_rfl) (H51_below R) (H51_below R) (by kernel_rfl)
theorem ix_out (R : List Bool) (c : Nat) : CodeOk Try.prog none (lp Try.prog 51 2) (T51 R.length c R.length) [] (H51 R) 2 ⟨.exit 0, T51 R.length c R.length, [], H51 R, 2⟩ :=
  code_at (hs := [(9, .val (.bool (decide ((R.length : Int) < R.length))) (.bool false))]) (ch := []) (evk 50) special ⟨congrArg Value.bool (decide_eq_false (by omega)), trivial⟩ trivial (by kernel_rfl) (H51_below R) (H51_below R) (by kernel_rfl)
def findF : List Bool → Nat → Option Nat
  | [], _ => none
  | b :: r, i => bif b then findF r (i + 1) else some i
def E51 (R : List Bool) (c : Nat) : Option Nat → Res
  | some i => ⟨.ret, TR51 R.length c i, [], H51 R, 2⟩
  | none => ⟨.exit 0, T51 R.length c R.length, [], H51 R, 2⟩
theorem ix_loop {R : List Bool} {c : Nat} (hR : R.length ≤ 1000) : ∀ (k i : Nat), i + k = R.length → LoopOk Try.prog none (lp Try.prog 51 2) (T51 R.length c i) [] (H51 R) 2 (E51 R c (findF (R.drop i) i))
  | 0, i, h => by
    have : i = R.length := by omega
    subst this
    rw [List.drop_length]
    exact loopOk_out (ix_out R c) (by show Exit.exit 0 ≠ Exit.normal; simp)
  | k + 1, i, h => by
    have hlt : i < R.length := by omega
    have hi : R[i]? = some R[i] := List.getElem?_eq_getElem hlt
    have h1 := ix_go (c := c) hi
    rw [List.drop_eq_getElem_cons hlt]
    simp only [findF]
    cases hb : R[i] with
    | false => rw [hb] at h1; exact loopOk_out h1 (by show Exit.ret ≠ Exit.normal; simp)
    | true =>
      rw [hb] at h1
      rw [show (i : Int) + 1 = ((i + 1 : Nat) : Int) by push_cast; rfl, wrap_nat (by omega)] at h1
      exact loop_step h1 (ix_loop hR k (i + 1) (by omega))
termination_by k => k
def optI : Option Nat → Int
  | some i => i
  | none => -1
theorem index_0 {R : List Bool} {c : Nat} (hR : R.length ≤ 1000) : Memo.Ok Try.prog ⟨51, 1, [.slice (some ⟨0, 0, none⟩) R.length c, .bool false], [(0, bc R)], .int .i64 (optI (findF R 0)), [], 1⟩ := by
  have hlo := ix_loop (c := c) hR R.length 0 (by omega)
  rw [List.drop_zero] at hlo
  generalize findF R 0 = g at hlo ⊢
  cases g <;>
    exact memo_pure (hs := []) (ch := [⟨2, none, .loop (lp Try.prog 51 2), T51 R.length c 0, [], H51 R, 2, _, true⟩]) 2 (evk 50) special trivial ⟨codeOk_loop hlo, trivial⟩ (by kernel_rfl) (by simp [En.smallH, small_avL (bc_av R)]) (by kernel_rfl)
theorem contains_0 {R : List Bool} {c : Nat} (hR : R.length ≤ 1000) {p : Bool} (hp : (findF R 0).isSome = p) : Memo.Ok Try.prog ⟨22, 1, [.slice (some ⟨0, 0, none⟩) R.length c, .bool false], [(0, bc R)], .bool p, [], 1⟩ := by
  have m := index_0 (c := c) hR
  generalize findF R 0 = g at m hp
  cases g with
  | none =>
    simp at hp
    subst hp
    exact memo_pure (hs := [(7, .call _)]) (ch := []) 1 (evk 50) special ⟨m, trivial⟩ trivial (by kernel_rfl) (by simp [En.smallH, small_avL (bc_av R)]) (by kernel_rfl)
  | some i =>
    simp at hp
    subst hp
    exact memo_pure (hs := [(7, .call _), (8, .val (.bool (decide ((i : Int) ≥ 0))) (.bool true))]) (ch := []) 1 (evk 50) special ⟨m, congrArg Value.bool (decide_eq_true (by omega)), trivial⟩ trivial (by kernel_rfl) (by simp [En.smallH, small_avL (bc_av R)]) (by kernel_rfl)
theorem contains_m {R : List Bool} {c : Nat} (hR : R.length ≤ 1000) {p : Bool} (hp : (findF R 0).isSome = p) (b nx : Nat) : Memo.Ok Try.prog ⟨22, nx, [.slice (some ⟨b, 0, none⟩) R.length c, .bool false], [(b, bc R)], .bool p, [], nx⟩ :=
  memo_blk (contains_0 hR hp) (bc_av R) b nx (by kernel_rfl) rfl rfl

/-! ### The counts -/
def ic (D : List Int) : List Value := D.map (Value.int .i64)
theorem ic_av : ∀ D : List Int, avL (ic D) = true
  | [] => rfl
  | _ :: D => ic_av D
theorem ic_get {D : List Int} {i : Nat} (h : i < D.length) : (ic D)[0 + i * 1]? = some (.int .i64 (D.getD i 0)) := by
  simp [ic, List.getD_eq_getElem?_getD, h]
theorem ic_set (D : List Int) (i : Nat) (x : Int) : (ic D).set (0 + i * 1) (.int .i64 x) = ic (D.set i x) := by simp [ic]
theorem ix_i {b n c i : Nat} (h : i < n) : doIndexAddr Try.prog 28 (.slice (some ⟨b, 0, none⟩) n c) (.int .i64 i) = some (.pointer (some ⟨b, 0 + i * 1, none⟩)) :=
  Sl.ix' (.inr rfl) u28 z3 h
theorem ld_i {b i : Nat} {D : List Int} {ro : Bool} (h : i < D.length) : doLoad Try.prog [(b, .cells (ic D) ro)] 3 (.pointer (some ⟨b, 0 + i * 1, none⟩)) = some (.int .i64 (D.getD i 0)) := ld1 z3 (ic_get h)
theorem st_i {b i : Nat} {D : List Int} {x : Int} (h : i < D.length) : doStore Try.prog [(b, .cells (ic D) false)] 3 (.pointer (some ⟨b, 0 + i * 1, none⟩)) (.int .i64 x) = some [(b, .cells (ic (D.set i x)) false)] := by
  rw [← ic_set]
  exact st1 z3 (by simp [ic]; omega) rfl rfl
def inc (D : List Int) (a : Nat) : List Int := D.set a (IntKind.i64.wrap (D.getD a 0 + 1))
theorem inc_len (D : List Int) (a : Nat) : (inc D a).length = D.length := by simp [inc]
/-- The temporaries and the heap in Check's first loop. -/
def T37 (X : Cx) (i : Int) : List Value := [J, pt 2, .int .i64 0, .slice (some ⟨5, 0, none⟩) X.S.length X.S.length] ++ List.replicate 33 J ++ [.slice X.sb X.ls.length X.d, .int .i64 X.ls.length, .int .i64 i] ++ List.replicate 46 J
def TJ37 (X : Cx) : List Value := [J, pt 2, .int .i64 0, .slice (some ⟨5, 0, none⟩) X.S.length X.S.length] ++ List.replicate 82 J
def H37 (X : Cx) (D : List Int) : Hp := [(5, .cells (ic D) false), (2, .cells X.cells true), (0, .cells X.st true), (1, .cells X.lk true)]
theorem H37_below (X : Cx) (D : List Int) {n : Nat} (hn : 6 ≤ n) : hpBelow n (H37 X D) = true := by
  have a1 : tidyB n (.cells X.cells true) = true := X.smallL (by omega) 5
  have a2 : tidyB n (.cells X.st true) = true := small_avL X.avs
  have a3 : tidyB n (.cells X.lk true) = true := small_avL X.avk
  have a4 : tidyB n (.cells (ic D) false) = true := small_avL (ic_av D)
  simp only [H37, hpBelow, a1, a2, a3, a4, Bool.and_true]
  simp; omega
theorem pre37 (X : Cx) (D : List Int) (i : Int) : (nodupN (H37 X D) && tmBelow 7 (T37 X i) && dsBelow 7 [] && rBelow 7 none) = true := by
  rcases X.hsb with ⟨h, _⟩ | h
  · simp only [T37, h]
    show _ = true
    kernel_rfl
  · simp only [T37, h]
    show _ = true
    kernel_rfl
theorem c_go (X : Cx) {D : List Int} {i : Nat} {l : Lk} (hD : D.length = X.S.length) (hi : X.ls[i]? = some l) (he : Ends X.S.length l) :
    CodeOk Try.prog none (lp Try.prog 37 7) (T37 X i) [] (H37 X D) 7 ⟨.normal, T37 X (IntKind.i64.wrap (i + 1)), [], H37 X (inc (inc D l.a.toNat) l.b.toNat), 7⟩ := by
  obtain ⟨a, b, p, q⟩ := l
  obtain ⟨a1, a2, b1, b2⟩ := he
  obtain ⟨a, rfl⟩ : ∃ n : Nat, a = n := ⟨a.toNat, by dsimp only at a1; omega⟩
  obtain ⟨b, rfl⟩ : ∃ n : Nat, b = n := ⟨b.toNat, by dsimp only at b1; omega⟩
  dsimp only at a2 b2
  have l0 := X.ldL hi
  have hlt := lt_of hi
  have hix1 : doIndexAddr Try.prog 28 (.slice (some ⟨5, 0, none⟩) X.S.length X.S.length) (.int .i64 a) = _ := ix_i (by omega)
  have hix2 : doIndexAddr Try.prog 28 (.slice (some ⟨5, 0, none⟩) X.S.length X.S.length) (.int .i64 b) = _ := ix_i (by omega)
  have la := ld_i (b := 5) (ro := false) (D := D) (i := a) (by omega)
  have sa := st_i (b := 5) (D := D) (i := a) (x := IntKind.i64.wrap (D.getD a 0 + 1)) (by omega)
  have lb := ld_i (b := 5) (ro := false) (D := inc D a) (i := b) (by rw [inc_len]; omega)
  have sb := st_i (b := 5) (D := inc D a) (i := b) (x := IntKind.i64.wrap ((inc D a).getD b 0 + 1)) (by rw [inc_len]; omega)
  have hsb := X.hsb
  rcases hsb with ⟨hsb, _⟩ | hsb <;>
    (refine code_at (hs := [(40, .val (.bool (decide ((i : Int) < X.ls.length))) (.bool true)), (41, .ix 23 (.slice X.sb X.ls.length X.d) (.int .i64 i) _), (42, .ld 50 _ 1 X.lk true _), (46, .ix 28 (.slice (some ⟨5, 0, none⟩) X.S.length X.S.length) (.int .i64 a) _), (47, .ld 3 _ 5 (ic D) false _), (49, .ix 28 (.slice (some ⟨5, 0, none⟩) X.S.length X.S.length) (.int .i64 a) _), (100049, .st 3 _ (.int .i64 (IntKind.i64.wrap (D.getD a 0 + 1))) 5 (ic D) _),
          (53, .ix 28 (.slice (some ⟨5, 0, none⟩) X.S.length X.S.length) (.int .i64 b) _), (54, .ld 3 _ 5 (ic (inc D a)) false _), (56, .ix 28 (.slice (some ⟨5, 0, none⟩) X.S.length X.S.length) (.int .i64 b) _), (100056, .st 3 _ (.int .i64 (IntKind.i64.wrap ((inc D a).getD b 0 + 1))) 5 (ic (inc D a)) _)]) (ch := []) (evk 50) special
        ⟨congrArg Value.bool (decide_eq_true (by omega)), X.ixL hlt, ⟨l0, _, rfl⟩, hix1, ⟨la, _, rfl⟩, hix1, ⟨sa, _, rfl⟩, hix2, ⟨lb, _, rfl⟩, hix2, ⟨sb, _, rfl⟩, trivial⟩ trivial (pre37 X D i) (H37_below X D (by omega)) (H37_below X _ (by omega)) ?_
     simp only [T37, hsb]; kernel_rfl)
theorem c_out (X : Cx) (D : List Int) : CodeOk Try.prog none (lp Try.prog 37 7) (T37 X X.ls.length) [] (H37 X D) 7 ⟨.exit 0, TJ37 X, [], H37 X D, 7⟩ := by
  have hsb := X.hsb
  rcases hsb with ⟨hsb, _⟩ | hsb <;>
    (refine code_at (hs := [(40, .val (.bool (decide ((X.ls.length : Int) < X.ls.length))) (.bool false))]) (ch := []) (evk 50) special ⟨congrArg Value.bool (decide_eq_false (by omega)), trivial⟩ trivial (pre37 X D _) (H37_below X D (by omega)) (H37_below X D (by omega)) ?_
     simp only [T37, TJ37, hsb]; kernel_rfl)
def cnt : List Lk → List Int → List Int
  | [], D => D
  | l :: r, D => cnt r (inc (inc D l.a.toNat) l.b.toNat)
theorem cnt_len : ∀ (l : List Lk) (D : List Int), (cnt l D).length = D.length
  | [], _ => rfl
  | l :: r, D => by rw [cnt, cnt_len r, inc_len, inc_len]
theorem c_loop (X : Cx) (he : ∀ l ∈ X.ls, Ends X.S.length l) : ∀ (k i : Nat) (D : List Int), D.length = X.S.length → i + k = X.ls.length →
    LoopOk Try.prog none (lp Try.prog 37 7) (T37 X i) [] (H37 X D) 7 ⟨.exit 0, TJ37 X, [], H37 X (cnt (X.ls.drop i) D), 7⟩
  | 0, i, D, hD, h => by
    have : i = X.ls.length := by omega
    subst this
    rw [List.drop_length]
    exact loopOk_out (c_out X D) (by show Exit.exit 0 ≠ Exit.normal; simp)
  | k + 1, i, D, hD, h => by
    have hlt : i < X.ls.length := by omega
    have hi : X.ls[i]? = some X.ls[i] := List.getElem?_eq_getElem hlt
    have h1 := c_go X hD hi (he _ (List.getElem_mem hlt))
    rw [show (i : Int) + 1 = ((i + 1 : Nat) : Int) by push_cast; rfl, wrap_nat (by have := X.hL; omega)] at h1
    rw [List.drop_eq_getElem_cons hlt]
    exact loop_step h1 (c_loop X he k (i + 1) _ (by rw [inc_len, inc_len]; exact hD) (by omega))
termination_by k => k
end Go.Proofs.Ytkngbmaomgfcjaa.topo
