/- Contracts: few; a row's line and heads of any size. -/
import Derived.Test.YtjconcfkpgkbkaaChW
import Derived.ProofKit
import Derived.HandedShaped
namespace Go.Proofs.Ytjconcfkpgkbkaa.choose
open Go Go.En
set_option linter.unusedVariables false

theorem b57 : ∃ inf z, Try.prog.info? 57 = some inf ∧ inf.size = 7 ∧ inf.bytes = 56 ∧ inf.zero = some z ∧ z.cells.size = 7 := by
  have hi : (Try.prog.info? 57).map (fun i => (i.size, i.bytes, i.zero.map (·.cells.size))) = some (7, 56, some 7) := by kernel_rfl
  cases he : Try.prog.info? 57 with
  | none => rw [he] at hi; cases hi
  | some inf =>
    rw [he] at hi
    simp only [Option.map_some, Option.some.injEq, Prod.mk.injEq] at hi
    obtain ⟨h1, h2, h3⟩ := hi
    cases hz : inf.zero with
    | none => rw [hz] at h3; cases h3
    | some z => rw [hz] at h3; exact ⟨inf, z, rfl, h1, h2, hz, by simpa using h3⟩
theorem pcs_len (l : List Pt) : (pcs l).length = l.length * 7 := cellsOfL_len (f := Pt.cells) (s := 7) (fun _ => rfl) l
theorem src_p {H : Hp} {b e : Nat} {l : List Pt} {ro : Bool} (hb : H.get b = some (.cells (pcs l) ro)) : srcCells H 7 (.slice (some ⟨b, 0, none⟩) l.length e) = some (l.length, pcs l) := by
  by_cases h0 : l.length = 0
  · have : l = [] := List.length_eq_zero_iff.1 h0
    subst this; rfl
  · have hl : 0 + l.length * 7 ≤ (pcs l).length := by rw [pcs_len]; omega
    simp only [srcCells, h0, if_false, hb, hl, if_true, List.drop_zero]
    rw [List.take_of_length_le (by rw [pcs_len]; omega)]
theorem bnd_nat {k : IntKind} {h n : Nat} (hh : h ≤ n) : bnd (.int k h) n = some h := by
  unfold bnd
  simp [hh]
/-- x[:m] -/
theorem slc_hi {t e : TypeId} {b n c m : Nat} {sa : Option Addr} (hu : Try.prog.underlying t = some (.slice e)) (hi : (Try.prog.info? e).isSome = true) (h : Sl b n sa) (hm : m ≤ c) (hc : c < openCap) : doSlice Try.prog t (.slice sa n c) none (some (.int .i64 m)) none = some (.slice sa m c) := by
  obtain ⟨inf, hi⟩ := Option.isSome_iff_exists.1 hi
  rcases h with ⟨rfl, _⟩ | rfl
  · simp [doSlice, hu, hi, bnds, highB, lowB, bnd_nat hm]
  · simp [doSlice, hu, hi, hc, bnds, highB, lowB, bnd_nat hm]
def oc7 : Nat := openCap + 7
theorem app_p {a b e : Nat} {l : List Pt} (h0 : 0 < l.length) (h1000 : l.length ≤ 1000) :
    Hint.Ok Try.prog (.app [27, 27] 27 [.slice (some ⟨a, 0, none⟩) 0 0, .slice (some ⟨b, 0, none⟩) l.length e] [(a, []), (b, pcs l)] none l.length oc7 (pcs l)) := by
  intro H nx hV _
  obtain ⟨inf, z, h1, h2, h3, h4, h5⟩ := b57
  obtain ⟨r2, g2⟩ := hV b (pcs l) (by simp)
  have e2 := src_p (e := e) g2
  have hne : ¬ (l.length = 0) := by omega
  have hnc : ¬ (openCap ≤ 0) := by simp [openCap]
  have hml : l.length ≤ maxLen := by unfold maxLen; omega
  have hby : l.length * 56 ≤ 140737488355328 := by omega
  have e1 : srcCells H 7 (.slice (some ⟨a, 0, none⟩) 0 0) = some (0, []) := rfl
  simp only [doBuiltin, if_true, doAppend, u27, h1, h2, h3, h4, e2, h5, e1, hne, h0, hml, hby, hnc, if_false, and_self, false_imp_iff, Nat.zero_lt_succ, delO, oc7, List.nil_append, Nat.zero_add]
def lvS (sa : Option Addr) (n c : Nat) (cyc per sh : Int) : Value := .agg #[.slice sa n c, .int .i64 cyc, .int .i64 per, .int .i64 sh]
section
variable {sa : Option Addr} {es : List Ent} {n c m k : Nat} {cyc per sh : Int} {hs : List Pt}
theorem few_some (ha : Sl 0 n sa) (hn : n ≤ c) (hc : c < openCap) (he : es.length = min n 129) (hm : m ≤ k) (hk : k < openCap) (hh : hs.length = min m 12) (h0 : 0 < m) :
    Memo.Ok Try.prog ⟨12, 2, [lvS sa n c cyc per sh, hv 1 m k], [(0, ecs es), (1, pcs hs)], .tuple #[lvS sa es.length c cyc per sh, hv 9 hs.length oc7], [(9, pcs hs)], 10⟩ := by
  have h1 := slc_hi (t := 22) (m := es.length) u22 (by kernel_rfl) ha (by omega) hc
  have h2 := slc_hi (t := 27) (m := hs.length) (b := 1) (sa := some ⟨1, 0, none⟩) u27 (by kernel_rfl) (n := m) (.inr rfl) (by omega) hk
  have e1 : (if (129 : Int) < n then 129 else (n : Int)) = (es.length : Nat) := by split <;> omega
  have e2 : (if (12 : Int) < m then 12 else (m : Int)) = (hs.length : Nat) := by split <;> omega
  have ap := app_p (a := 6) (b := 1) (e := k) (l := hs) (by omega) (by omega)
  rcases ha with ⟨rfl, rfl⟩ | rfl <;>
    exact memo_new (hs := [(13, .val _ _), (14, .slc 22 _ none _ none _), (22, .val _ _), (23, .slc 27 _ none _ none _), (24, .app _ _ _ _ _ _ _ _)]) (ch := []) (evk 50) special
      ⟨congrArg (Value.int .i64) e1, h1, congrArg (Value.int .i64) e2, h2, ap, trivial⟩ trivial (by kernel_rfl)
theorem few_none {sb : Option Addr} (ha : Sl 0 n sa) (hn : n ≤ c) (hc : c < openCap) (he : es.length = min n 129) (hb : Sl 1 0 sb) (hk : k < openCap) :
    Memo.Ok Try.prog ⟨12, 2, [lvS sa n c cyc per sh, .slice sb 0 k], [(0, ecs es), (1, pcs hs)], .tuple #[lvS sa es.length c cyc per sh, hv 6 0 0], [(6, [])], 10⟩ := by
  have h1 := slc_hi (t := 22) (m := es.length) u22 (by kernel_rfl) ha (by omega) hc
  have h2 := slc_hi (t := 27) (m := 0) (c := k) u27 (by kernel_rfl) hb (by omega) hk
  have e1 : (if (129 : Int) < n then 129 else (n : Int)) = (es.length : Nat) := by split <;> omega
  rcases ha with ⟨rfl, rfl⟩ | rfl <;> rcases hb with ⟨rfl, _⟩ | rfl <;>
    exact memo_new (hs := [(13, .val _ _), (14, .slc 22 _ none _ none _), (23, .slc 27 _ none _ none _)]) (ch := []) (evk 50) special
      ⟨congrArg (Value.int .i64) e1, h1, h2, trivial⟩ trivial (by kernel_rfl)
end
end Go.Proofs.Ytjconcfkpgkbkaa.choose
