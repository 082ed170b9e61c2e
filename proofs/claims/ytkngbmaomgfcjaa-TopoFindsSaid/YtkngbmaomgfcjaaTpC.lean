/- Contracts: the check of a link against those before it, sound. -/
import Derived.Test.YtkngbmaomgfcjaaTpB
namespace Go.Proofs.Ytkngbmaomgfcjaa.topo
open Go Go.En
set_option linter.unusedVariables false

theorem wrap_nat {n : Nat} (h : n < 9223372036854775808) : IntKind.i64.wrap (n : Int) = n := by
  simp only [IntKind.wrap, IntKind.signed, IntKind.bits]
  simp
  omega
theorem bnd_nat {k : IntKind} {h n : Nat} (hh : h ≤ n) : bnd (.int k h) n = some h := by
  unfold bnd
  simp [hh]
/-- x[:m] -/
theorem slc_hi {t e : TypeId} {b n c m : Nat} {sa : Option Addr} (hu : Try.prog.underlying t = some (.slice e)) (hi : (Try.prog.info? e).isSome = true) (h : Sl b n sa) (hm : m ≤ c) (hc : c < openCap) : doSlice Try.prog t (.slice sa n c) none (some (.int .i64 m)) none = some (.slice sa m c) := by
  obtain ⟨inf, hi⟩ := Option.isSome_iff_exists.1 hi
  rcases h with ⟨rfl, _⟩ | rfl
  · simp [doSlice, hu, hi, bnds, highB, lowB, bnd_nat hm]
  · simp [doSlice, hu, hi, hc, bnds, highB, lowB, bnd_nat hm]
def dup (l o : Lk) : Bool := ((l.a == o.a) && (l.b == o.b)) || ((l.a == o.b) && (l.b == o.a))
def T64 (X : Cx) (i : Nat) (k : Int) : List Value := [.int .i64 i, pt 2, J, .bool false, pt 3, J, J, J, J, J, J, J, J, J, J, .slice X.sb i X.d, .int .i64 i, .int .i64 k] ++ List.replicate 30 J
def TJ64 (X : Cx) (i : Nat) : List Value := [.int .i64 i, pt 2, J, .bool false, pt 3, J, J, J, J, J, J, J, J, J, J, .slice X.sb i X.d, .int .i64 i, J] ++ List.replicate 30 J
def H64 (X : Cx) (l : Lk) : Hp := [(3, .cells l.cells false), (0, .cells X.st true), (1, .cells X.lk true), (2, .cells X.cells true)]
theorem H64_below (X : Cx) (l : Lk) {n : Nat} (hn : 4 ≤ n) : hpBelow n (H64 X l) = true := by
  have h1 : hpBelow n [(3, .cells l.cells false)] = true := by
    simp [hpBelow, tidyB, Lk.cells, En.smallL, En.small]; omega
  have h2 : hpBelow n (roHp X.V3) = true := roHp_below (by simp [below, Cx.V3]; omega) (X.smallH3 (by omega))
  simp only [hpBelow, Bool.and_true] at h1
  show ((decide (3 < n) && tidyB n (.cells l.cells false)) && hpBelow n (roHp X.V3)) = true
  rw [h1, h2]; rfl
theorem slX {X : Cx} {i k : Nat} (hi : i < X.ls.length) : Sl 1 k X.sb := by
  rcases X.hsb with ⟨_, h⟩ | h
  · omega
  · exact .inr h
theorem k3_pre (X : Cx) {i : Nat} (hi : i < X.ls.length) (k : Int) (l : Lk) : (nodupN (H64 X l) && tmBelow 5 (T64 X i k) && dsBelow 5 [] && rBelow 5 none) = true := by
  have h : Sl 1 i X.sb := slX hi
  rcases h with ⟨h, _⟩ | h
  · simp only [T64, h]
    show _ = true
    kernel_rfl
  · simp only [T64, h]
    show _ = true
    kernel_rfl
theorem k3_go (X : Cx) {i k : Nat} {l o : Lk} (hi : X.ls[i]? = some l) (hk : k < i) (ho : X.ls[k]? = some o) {b : Bool} (hb : dup l o = b) :
    CodeOk Try.prog none (lp Try.prog 64 3) (T64 X i k) [] (H64 X l) 5 (bif b then ⟨.ret, TJ64 X i, [], H64 X l, 5⟩ else ⟨.normal, T64 X i (IntKind.i64.wrap (k + 1)), [], H64 X l, 5⟩) := by
  have l0 := X.ldL ho
  have hix : doIndexAddr Try.prog 23 (.slice X.sb i X.d) (.int .i64 k) = some (.pointer (some ⟨1, 0 + k * 4, none⟩)) := (slX (k := i) (lt_of hi)).ix' u23 z50 hk
  have key : ∀ p1 p2 p3 p4, (l.a == o.a) = p1 → (l.b == o.b) = p2 → (l.a == o.b) = p3 → (l.b == o.a) = p4 → ((p1 && p2) || (p3 && p4)) = b →
      CodeOk Try.prog none (lp Try.prog 64 3) (T64 X i k) [] (H64 X l) 5 (bif b then ⟨.ret, TJ64 X i, [], H64 X l, 5⟩ else ⟨.normal, T64 X i (IntKind.i64.wrap (k + 1)), [], H64 X l, 5⟩) := by
    intro p1 p2 p3 p4 h1 h2 h3 h4 h5
    subst h5
    have pre := k3_pre X (lt_of hi) k l
    have bl := H64_below X l (n := 5) (by omega)
    have hsb : Sl 1 i X.sb := slX (lt_of hi)
    obtain ⟨a, b, p, q⟩ := l
    obtain ⟨a', b', p', q'⟩ := o
    rcases hsb with ⟨_, h0⟩ | hsb
    · omega
    · cases p1 <;> cases p2 <;> cases p3 <;> cases p4 <;>
        refine code_at (hs := [(18, .val (.bool (decide ((k : Int) < i))) (.bool true)), (19, .ix 23 (.slice X.sb i X.d) (.int .i64 k) _), (20, .ld 50 _ 1 X.lk true _), (25, .val (.bool (a == a')) (.bool _)), (31, .val (.bool (b == b')) (.bool _)), (38, .val (.bool (a == b')) (.bool _)), (44, .val (.bool (b == a')) (.bool _))]) (ch := []) (evk 50) special
          ⟨congrArg Value.bool (decide_eq_true (by omega)), hix, ⟨l0, _, rfl⟩, congrArg Value.bool h1, congrArg Value.bool h2, congrArg Value.bool h3, congrArg Value.bool h4, trivial⟩ trivial pre bl bl ?_ <;>
        (simp only [T64, TJ64, hsb]; kernel_rfl)
  exact key _ _ _ _ rfl rfl rfl rfl hb
theorem k3_out (X : Cx) {i : Nat} {l : Lk} (hi : X.ls[i]? = some l) :
    CodeOk Try.prog none (lp Try.prog 64 3) (T64 X i i) [] (H64 X l) 5 ⟨.exit 0, TJ64 X i, [], H64 X l, 5⟩ := by
  have pre := k3_pre X (lt_of hi) i l
  have bl := H64_below X l (n := 5) (by omega)
  have hsb : Sl 1 i X.sb := slX (lt_of hi)
  rcases hsb with ⟨hsb, _⟩ | hsb <;>
    (refine code_at (hs := [(18, .val (.bool (decide ((i : Int) < i))) (.bool false))]) (ch := []) (evk 50) special ⟨congrArg Value.bool (decide_eq_false (by omega)), trivial⟩ trivial pre bl bl ?_
     simp only [T64, TJ64, hsb]; kernel_rfl)
def R64 (X : Cx) (i : Nat) (l : Lk) (b : Bool) : Res := ⟨bif b then .ret else .exit 0, TJ64 X i, [], H64 X l, 5⟩
theorem k3_loop (X : Cx) {i : Nat} {l : Lk} (hi : X.ls[i]? = some l) : ∀ (r k : Nat), k + r = i → LoopOk Try.prog none (lp Try.prog 64 3) (T64 X i k) [] (H64 X l) 5 (R64 X i l (((X.ls.take i).drop k).any (dup l)))
  | 0, k, h => by
    have : k = i := by omega
    subst this
    rw [List.drop_eq_nil_of_le (by simp; omega)]
    exact loopOk_out (k3_out X hi) (by show Exit.exit 0 ≠ Exit.normal; simp)
  | r + 1, k, h => by
    have hlt := lt_of hi
    have hk : k < (X.ls.take i).length := by simp; omega
    have ho : X.ls[k]? = some X.ls[k] := List.getElem?_eq_getElem (by omega)
    have hget : (X.ls.take i)[k] = X.ls[k] := by simp
    rw [List.drop_eq_getElem_cons hk, List.any_cons, hget]
    cases hb : dup l X.ls[k] with
    | true => exact loopOk_out (k3_go X hi (by omega) ho hb) (by show Exit.ret ≠ Exit.normal; simp)
    | false =>
      have h1 := k3_go X hi (by omega) ho hb
      simp only [cond_false] at h1
      rw [show (k : Int) + 1 = ((k + 1 : Nat) : Int) by push_cast; rfl, wrap_nat (by have := X.hL; omega)] at h1
      exact loop_step h1 (k3_loop X hi r (k + 1) (by omega))
termination_by r => r
def k3 (ls : List Lk) (i : Nat) (l : Lk) : Bool := !((ls.take i).any (dup l))
theorem k3_0 (X : Cx) {i : Nat} {l : Lk} (hd : X.ls.length ≤ X.d) (hd2 : X.d < openCap) (hi : X.ls[i]? = some l) : Memo.Ok Try.prog ⟨64, 3, [.int .i64 i, pt 2], X.V3, .bool (k3 X.ls i l), [], 3⟩ := by
  have hlo := k3_loop X hi i 0 (by omega)
  rw [List.drop_zero] at hlo
  unfold k3
  have l0 := X.ldL hi
  have hlt := lt_of hi
  have hsl := slc_hi (t := 23) (m := i) u23 (by kernel_rfl) X.hsb (by omega) hd2
  generalize (X.ls.take i).any (dup l) = b at hlo ⊢
  obtain ⟨x, y, p, q⟩ := l
  cases b <;>
    exact memo_pure (hs := [(10, .ix 23 (.slice X.sb X.ls.length X.d) (.int .i64 i) _), (11, .ld 50 _ 1 X.lk true _), (15, .slc 23 (.slice X.sb X.ls.length X.d) none (some (.int .i64 i)) none _)]) (ch := [⟨3, none, .loop (lp Try.prog 64 3), T64 X i 0, [], H64 X ⟨x, y, p, q⟩, 5, _, false⟩]) 5 (evk 50) special
      ⟨X.ixL hlt, ⟨l0, _, rfl⟩, hsl, trivial⟩ ⟨codeOk_loop hlo, trivial⟩ (by kernel_rfl) (X.smallH3 (by omega)) (by kernel_rfl)
end Go.Proofs.Ytkngbmaomgfcjaa.topo
