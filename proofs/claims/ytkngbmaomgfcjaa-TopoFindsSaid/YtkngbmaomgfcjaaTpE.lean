/- Contract: reach. -/
import Derived.Test.YtkngbmaomgfcjaaTpD
namespace Go.Proofs.Ytkngbmaomgfcjaa.topo
open Go Go.En
set_option linter.unusedVariables false

def bc (R : List Bool) : List Value := R.map Value.bool
theorem bc_len (R : List Bool) : (bc R).length = R.length := by simp [bc]
theorem bc_get {R : List Bool} {i : Nat} {b : Bool} (h : R[i]? = some b) : (bc R)[0 + i * 1]? = some (.bool b) := by simp [bc, h]
theorem bc_set (R : List Bool) (i : Nat) (b : Bool) : (bc R).set (0 + i * 1) (.bool b) = bc (R.set i b) := by simp [bc]
theorem bc_av : ∀ R : List Bool, avL (bc R) = true
  | [] => rfl
  | _ :: R => bc_av R
theorem getD_some {R : List Bool} {i : Nat} (h : i < R.length) : R[i]? = some (R.getD i false) := by
  rw [List.getD_eq_getElem?_getD, List.getElem?_eq_getElem h]; rfl
/-- The elements of a slice over a block of truth values. -/
theorem ix_b {b n c i : Nat} (h : i < n) : doIndexAddr Try.prog 22 (.slice (some ⟨b, 0, none⟩) n c) (.int .i64 i) = some (.pointer (some ⟨b, 0 + i * 1, none⟩)) :=
  Sl.ix' (.inr rfl) u22 z4 h
theorem ld_b {b i : Nat} {R : List Bool} {ro : Bool} (h : i < R.length) : doLoad Try.prog [(b, .cells (bc R) ro)] 4 (.pointer (some ⟨b, 0 + i * 1, none⟩)) = some (.bool (R.getD i false)) := ld1 z4 (bc_get (getD_some h))
theorem st_b {b i : Nat} {R : List Bool} {x : Bool} (h : i < R.length) : doStore Try.prog [(b, .cells (bc R) false)] 4 (.pointer (some ⟨b, 0 + i * 1, none⟩)) (.bool x) = some [(b, .cells (bc (R.set i x)) false)] := by
  rw [← bc_set]
  exact st1 z4 (by simp [bc]; omega) (by cases x <;> rfl) rfl
theorem ix_71 {b i : Nat} (h : i < 24) : doIndexAddr Try.prog 71 (.pointer (some ⟨b, 0, none⟩)) (.int .i64 i) = some (.pointer (some ⟨b, 0 + i * 1, none⟩)) := by
  have hu : Try.prog.underlying 71 = some (.array 24 4) := by kernel_rfl
  obtain ⟨d, inf, h1, h2, h3, h4⟩ := szIs_some z4
  simp only [doIndexAddr, hu, idx_nat h, h2, h3]

def T47 (X : Cx) (r : Int) : List Value := [J, J, J, pt 2, J, pt 3, J, .slice (some ⟨4, 0, none⟩) X.S.length X.S.length, J, J, J, J, J, J, J, J, J, .int .i64 X.N, .int .i64 r] ++ List.replicate 37 J
def U47 (X : Cx) (r i : Int) : List Value := [J, J, J, pt 2, J, pt 3, J, .slice (some ⟨4, 0, none⟩) X.S.length X.S.length, J, J, J, J, J, J, J, J, J, .int .i64 X.N, .int .i64 r, J, J, .slice X.sb X.ls.length X.d, .int .i64 X.ls.length, .int .i64 i] ++ List.replicate 32 J
def H47 (X : Cx) (C R : List Bool) : Hp := [(4, .cells (bc R) false), (3, .cells (bc C) true), (2, .cells X.cells true), (0, .cells X.st true), (1, .cells X.lk true)]
theorem H47_below (X : Cx) (C R : List Bool) {n : Nat} (hn : 5 ≤ n) : hpBelow n (H47 X C R) = true := by
  have a1 : tidyB n (.cells X.cells true) = true := X.smallL (by omega) 5
  have a2 : tidyB n (.cells X.st true) = true := small_avL X.avs
  have a3 : tidyB n (.cells X.lk true) = true := small_avL X.avk
  have a4 : tidyB n (.cells (bc R) false) = true := small_avL (bc_av R)
  have a5 : tidyB n (.cells (bc C) true) = true := small_avL (bc_av C)
  simp only [H47, hpBelow, a1, a2, a3, a4, a5, Bool.and_true]
  simp; omega
theorem pre47 (X : Cx) (C R : List Bool) (r i : Int) : (nodupN (H47 X C R) && tmBelow 6 (U47 X r i) && dsBelow 6 [] && rBelow 6 none) = true := by
  rcases X.hsb with ⟨h, _⟩ | h
  · simp only [U47, h]
    show _ = true
    kernel_rfl
  · simp only [U47, h]
    show _ = true
    kernel_rfl
def rstep (C : List Bool) (i : Nat) (l : Lk) (R : List Bool) : List Bool := bif !C.getD i false && (R.getD l.a.toNat false != R.getD l.b.toNat false) then (R.set l.a.toNat true).set l.b.toNat true else R
theorem rstep_len (C : List Bool) (i : Nat) (l : Lk) (R : List Bool) : (rstep C i l R).length = R.length := by
  unfold rstep; cases (!C.getD i false && (R.getD l.a.toNat false != R.getD l.b.toNat false)) <;> simp
def Ends (N : Int) (l : Lk) : Prop := 0 ≤ l.a ∧ l.a < N ∧ 0 ≤ l.b ∧ l.b < N
theorem r_go (X : Cx) {C R : List Bool} {r : Int} {i : Nat} {l : Lk} (hC : C.length = 24) (hR : R.length = X.S.length) (hi : X.ls[i]? = some l) (h24 : i < 24) (he : Ends X.S.length l) :
    CodeOk Try.prog none (lp Try.prog 47 6) (U47 X r i) [] (H47 X C R) 6 ⟨.normal, U47 X r (IntKind.i64.wrap (i + 1)), [], H47 X C (rstep C i l R), 6⟩ := by
  obtain ⟨a, b, p, q⟩ := l
  obtain ⟨a1, a2, b1, b2⟩ := he
  obtain ⟨a, rfl⟩ : ∃ n : Nat, a = n := ⟨a.toNat, by dsimp only at a1; omega⟩
  obtain ⟨b, rfl⟩ : ∃ n : Nat, b = n := ⟨b.toNat, by dsimp only at b1; omega⟩
  dsimp only at a2 b2
  have ha : a < R.length := by omega
  have hb : b < R.length := by omega
  have l0 := X.ldL hi
  have hlt := lt_of hi
  have key : ∀ p1 p2, C.getD i false = p1 → (R.getD a false != R.getD b false) = p2 →
      CodeOk Try.prog none (lp Try.prog 47 6) (U47 X r i) [] (H47 X C R) 6 ⟨.normal, U47 X r (IntKind.i64.wrap (i + 1)), [], H47 X C (bif !p1 && p2 then (R.set a true).set b true else R), 6⟩ := by
    intro p1 p2 h1 h2
    have c1 := ld_b (b := 3) (ro := true) (R := C) (i := i) (by omega)
    rw [h1] at c1
    have hix1 : doIndexAddr Try.prog 22 (.slice (some ⟨4, 0, none⟩) X.S.length X.S.length) (.int .i64 a) = _ := ix_b (by omega)
    have hix2 : doIndexAddr Try.prog 22 (.slice (some ⟨4, 0, none⟩) X.S.length X.S.length) (.int .i64 b) = _ := ix_b (by omega)
    have la := ld_b (b := 4) (ro := true) ha
    have lb := ld_b (b := 4) (ro := true) hb
    have sa := st_b (b := 4) (x := true) ha
    have sb := st_b (b := 4) (x := true) (R := R.set a true) (i := b) (by simp; omega)
    have hsb := X.hsb
    rcases hsb with ⟨hsb, _⟩ | hsb <;> cases p1 <;> cases p2 <;>
      (refine code_at (hs := [(24, .val (.bool (decide ((i : Int) < X.ls.length))) (.bool true)), (26, .ix 23 (.slice X.sb X.ls.length X.d) (.int .i64 i) _), (27, .ld 50 _ 1 X.lk true _), (29, .ix 71 (pt 3) (.int .i64 i) _), (30, .ld 4 _ 3 (bc C) true _), (36, .ix 22 (.slice (some ⟨4, 0, none⟩) X.S.length X.S.length) (.int .i64 a) _), (37, .ld 4 _ 4 (bc R) true _), (41, .ix 22 (.slice (some ⟨4, 0, none⟩) X.S.length X.S.length) (.int .i64 b) _), (42, .ld 4 _ 4 (bc R) true _), (43, .val (.bool (R.getD a false != R.getD b false)) (.bool _)),
            (51, .ix 22 (.slice (some ⟨4, 0, none⟩) X.S.length X.S.length) (.int .i64 a) _), (100051, .st 4 _ (.bool true) 4 (bc R) _), (52, .ix 22 (.slice (some ⟨4, 0, none⟩) X.S.length X.S.length) (.int .i64 b) _), (100052, .st 4 _ (.bool true) 4 (bc (R.set a true)) _)]) (ch := []) (evk 50) special
          ⟨congrArg Value.bool (decide_eq_true (by omega)), X.ixL hlt, ⟨l0, _, rfl⟩, ix_71 h24, ⟨c1, _, rfl⟩, hix1, ⟨la, _, rfl⟩, hix2, ⟨lb, _, rfl⟩, congrArg Value.bool h2, hix1, ⟨sa, _, rfl⟩, hix2, ⟨sb, _, rfl⟩, trivial⟩ trivial (pre47 X C R r i) (H47_below X C R (by omega)) (H47_below X C _ (by omega)) ?_
       simp only [U47, hsb]; kernel_rfl)
  exact key _ _ rfl rfl
theorem r_out (X : Cx) (C R : List Bool) (r : Int) : CodeOk Try.prog none (lp Try.prog 47 6) (U47 X r X.ls.length) [] (H47 X C R) 6 ⟨.exit 2, T47 X r, [], H47 X C R, 6⟩ := by
  have hsb := X.hsb
  rcases hsb with ⟨hsb, _⟩ | hsb <;>
    (refine code_at (hs := [(24, .val (.bool (decide ((X.ls.length : Int) < X.ls.length))) (.bool false))]) (ch := []) (evk 50) special ⟨congrArg Value.bool (decide_eq_false (by omega)), trivial⟩ trivial (pre47 X C R r _) (H47_below X C R (by omega)) (H47_below X C R (by omega)) ?_
     simp only [U47, T47, hsb]; kernel_rfl)
def rgo (C : List Bool) : List Lk → Nat → List Bool → List Bool
  | [], _, R => R
  | l :: r, i, R => rgo C r (i + 1) (rstep C i l R)
theorem rgo_len (C : List Bool) : ∀ (l : List Lk) (i : Nat) (R : List Bool), (rgo C l i R).length = R.length
  | [], _, _ => rfl
  | l :: r, i, R => by rw [rgo, rgo_len C r, rstep_len]
theorem r_loop (X : Cx) {C : List Bool} {r : Int} (hC : C.length = 24) (h24 : X.ls.length ≤ 24) (he : ∀ l ∈ X.ls, Ends X.S.length l) : ∀ (k i : Nat) (R : List Bool), R.length = X.S.length → i + k = X.ls.length →
    LoopOk Try.prog none (lp Try.prog 47 6) (U47 X r i) [] (H47 X C R) 6 ⟨.exit 2, T47 X r, [], H47 X C (rgo C (X.ls.drop i) i R), 6⟩
  | 0, i, R, hR, h => by
    have : i = X.ls.length := by omega
    subst this
    rw [List.drop_length]
    exact loopOk_out (r_out X C R r) (by show Exit.exit 2 ≠ Exit.normal; simp)
  | k + 1, i, R, hR, h => by
    have hlt : i < X.ls.length := by omega
    have hi : X.ls[i]? = some X.ls[i] := List.getElem?_eq_getElem hlt
    have h1 := r_go X (r := r) hC hR hi (by omega) (he _ (List.getElem_mem hlt))
    rw [show (i : Int) + 1 = ((i + 1 : Nat) : Int) by push_cast; rfl, wrap_nat (by omega)] at h1
    rw [List.drop_eq_getElem_cons hlt]
    exact loop_step h1 (r_loop X hC h24 he k (i + 1) _ (by rw [rstep_len]; exact hR) (by omega))
termination_by k => k
theorem pre47o (X : Cx) (C R : List Bool) (r : Int) : (nodupN (H47 X C R) && tmBelow 5 (T47 X r) && dsBelow 5 [] && rBelow 5 none) = true := by kernel_rfl
theorem o_go (X : Cx) {C R : List Bool} (hN : X.N = X.S.length) (hC : C.length = 24) (hR : R.length = X.S.length) (h24 : X.ls.length ≤ 24) (he : ∀ l ∈ X.ls, Ends X.S.length l) {r : Nat} (hr : r < X.S.length) :
    CodeOk Try.prog none (lp Try.prog 47 4) (T47 X r) [] (H47 X C R) 5 ⟨.normal, T47 X (IntKind.i64.wrap (r + 1)), [], H47 X C (rgo C X.ls 0 R), 5⟩ := by
  have hin := r_loop X (r := r) hC h24 he X.ls.length 0 R hR (by omega)
  rw [List.drop_zero] at hin
  exact code_at (hs := [(19, .val (.bool (decide ((r : Int) < X.N))) (.bool true))]) (ch := [⟨6, none, .loop (lp Try.prog 47 6), U47 X r 0, [], H47 X C R, 6, _, true⟩]) (evk 50) special ⟨congrArg Value.bool (decide_eq_true (by omega)), trivial⟩ ⟨codeOk_loop hin, trivial⟩ (pre47o X C R r) (H47_below X C R (by omega)) (H47_below X C _ (by omega)) (by kernel_rfl)
theorem o_out (X : Cx) (C R : List Bool) (hN : X.N = X.S.length) : CodeOk Try.prog none (lp Try.prog 47 4) (T47 X X.S.length) [] (H47 X C R) 5 ⟨.exit 0, T47 X X.S.length, [], H47 X C R, 5⟩ :=
  code_at (hs := [(19, .val (.bool (decide ((X.S.length : Int) < X.N))) (.bool false))]) (ch := []) (evk 50) special ⟨congrArg Value.bool (decide_eq_false (by omega)), trivial⟩ trivial (pre47o X C R _) (H47_below X C R (by omega)) (H47_below X C R (by omega)) (by kernel_rfl)
def rIter (C : List Bool) (ls : List Lk) : Nat → List Bool → List Bool
  | 0, R => R
  | n + 1, R => rIter C ls n (rgo C ls 0 R)
theorem rIter_len (C : List Bool) (ls : List Lk) : ∀ (n : Nat) (R : List Bool), (rIter C ls n R).length = R.length
  | 0, _ => rfl
  | n + 1, R => by rw [rIter, rIter_len C ls n, rgo_len]
theorem o_loop (X : Cx) {C : List Bool} (hN : X.N = X.S.length) (hC : C.length = 24) (h24 : X.ls.length ≤ 24) (he : ∀ l ∈ X.ls, Ends X.S.length l) : ∀ (k r : Nat) (R : List Bool), R.length = X.S.length → r + k = X.S.length →
    LoopOk Try.prog none (lp Try.prog 47 4) (T47 X r) [] (H47 X C R) 5 ⟨.exit 0, T47 X X.S.length, [], H47 X C (rIter C X.ls k R), 5⟩
  | 0, r, R, hR, h => by
    have : r = X.S.length := by omega
    subst this
    exact loopOk_out (o_out X C R hN) (by show Exit.exit 0 ≠ Exit.normal; simp)
  | k + 1, r, R, hR, h => by
    have h1 := o_go X hN hC hR h24 he (r := r) (by omega)
    rw [show (r : Int) + 1 = ((r + 1 : Nat) : Int) by push_cast; rfl, wrap_nat (by have := X.hS; omega)] at h1
    exact loop_step h1 (o_loop X hN hC h24 he k (r + 1) _ (by rw [rgo_len]; exact hR) (by omega))
termination_by k => k
def reachS (C : List Bool) (ls : List Lk) (n : Nat) (a : Nat) : List Bool := rIter C ls n ((List.replicate n false).set a true)
theorem mk22 {n : Nat} (hn : n ≤ 1000) : Hint.Ok Try.prog (.mk 22 (.int .i64 n) (.int .i64 n) n (List.replicate n (.bool false))) :=
  mk_n (z := .bool false) (by_ := 1) u22 (by kernel_rfl) (by kernel_rfl) rfl (by omega) hn
theorem rep_bc (n : Nat) : List.replicate n (Value.bool false) = bc (List.replicate n false) := by simp [bc]
theorem reach_0 (X : Cx) {C : List Bool} {a : Nat} (hN : X.N = X.S.length) (hC : C.length = 24) (h24 : X.ls.length ≤ 24) (he : ∀ l ∈ X.ls, Ends X.S.length l) (ha : a < X.S.length) :
    Memo.Ok Try.prog ⟨47, 2, [X.v, .int .i64 a, .agg ⟨bc C⟩], X.V, .slice (some ⟨4, 0, none⟩) X.S.length X.S.length, [(4, bc (reachS C X.ls X.S.length a))], 5⟩ := by
  have hlo := o_loop X hN hC h24 he X.S.length 0 ((List.replicate X.S.length false).set a true) (by simp) (by omega)
  have mk := mk22 X.hS
  rw [rep_bc] at mk
  have hix : doIndexAddr Try.prog 22 (.slice (some ⟨4, 0, none⟩) X.S.length X.S.length) (.int .i64 a) = _ := ix_b ha
  have sa := st_b (b := 4) (x := true) (R := List.replicate X.S.length false) (i := a) (by simp; omega)
  obtain ⟨N, sa', c, sb', d, st, lk, S, ls, a1, a2, a3, a4, a5, a6, a7, a8⟩ := X
  dsimp only at hN
  subst hN
  exact memo_new (hs := [(3, .frz), (5, .frz), (12, .mk 22 _ _ _ _), (15, .ix 22 (.slice (some ⟨4, 0, none⟩) S.length S.length) (.int .i64 a) _), (100015, .st 4 _ (.bool true) 4 _ _)]) (ch := [⟨4, none, .loop (lp Try.prog 47 4), T47 _ 0, [], H47 _ C _, 5, _, true⟩]) (evk 50) special ⟨trivial, trivial, mk, hix, ⟨sa, _, rfl⟩, trivial⟩ ⟨codeOk_loop hlo, trivial⟩ (by kernel_rfl)
end Go.Proofs.Ytkngbmaomgfcjaa.topo
