/- A row's arguments: topologies of any size; what few makes of them. -/
import Derived.Test.YtkngbmaomgfcjaaTpK
import Derived.Test.YtkngbmaomgfcjaaTpW
import Derived.ProofKit
namespace Go.Proofs.Ytkngbmaomgfcjaa.topo
open Go Go.En Go.ChangeShapes Go.WideShapes Go.RowKit
set_option linter.unusedVariables false

/-- A topology as it is handed in. -/
structure Raw where
  N : Int
  sa : Option Addr
  c : Nat
  sb : Option Addr
  d : Nat
  S : List Bool
  ls : List Lk
  hsa : Sl 0 S.length sa
  hsb : Sl 1 ls.length sb
  hc : S.length ≤ c
  hc2 : c < openCap
  hd : ls.length ≤ d
  hd2 : d < openCap
def lcs : List Lk → List Value
  | [] => []
  | l :: r => l.cells ++ lcs r
theorem lcs_av : ∀ l : List Lk, avL (lcs l) = true
  | [] => rfl
  | _ :: r => lcs_av r
theorem lcs_get : ∀ (ls : List Lk) (i : Nat) (l : Lk), ls[i]? = some l → ∀ (j : Nat) v, l.cells[j]? = some v → (lcs ls)[i * 4 + j]? = some v
  | [], _, _, h, _, _, _ => by simp at h
  | x :: r, 0, l, h, j, v, hv => by
    simp at h
    subst h
    have hj : j < x.cells.length := (List.getElem?_eq_some_iff.1 hv).1
    simp only [lcs, Nat.zero_mul, Nat.zero_add]
    rw [List.getElem?_append_left hj]; exact hv
  | x :: r, i + 1, l, h, j, v, hv => by
    have := lcs_get r i l (by simpa using h) j v hv
    simp only [lcs]
    have hx : x.cells.length = 4 := rfl
    rw [List.getElem?_append_right (by omega), hx, ← this]
    congr 1; omega
theorem lcs_inv : ∀ {ls : List Lk} {j : Nat} {v : Value}, (lcs ls)[j]? = some v → ∃ i l r, ls[i]? = some l ∧ l.cells[r]? = some v ∧ j = i * 4 + r
  | [], j, v, h => by simp [lcs] at h
  | p :: l, j, v, h => by
    simp only [lcs] at h
    by_cases hj : j < p.cells.length
    · rw [List.getElem?_append_left hj] at h
      exact ⟨0, p, j, rfl, h, by omega⟩
    · rw [List.getElem?_append_right (by omega)] at h
      obtain ⟨i, q, r, h1, h2, h3⟩ := lcs_inv h
      have : p.cells.length = 4 := rfl
      exact ⟨i + 1, q, r, by simpa using h1, h2, by omega⟩
def Raw.v (Y : Raw) : Value := tv Y.N Y.sa Y.S.length Y.c Y.sb Y.ls.length Y.d
def Raw.V (Y : Raw) : List (Nat × List Value) := [(0, bc Y.S), (1, lcs Y.ls)]
theorem sl_take {b n m : Nat} {sa : Option Addr} (h : Sl b n sa) (hm : m ≤ n) : Sl b m sa := by
  rcases h with ⟨h, h0⟩ | h
  · exact .inl ⟨h, by omega⟩
  · exact .inr h
def Raw.few (Y : Raw) : Cx where
  N := Y.N
  sa := Y.sa
  c := Y.c
  sb := Y.sb
  d := Y.d
  st := bc Y.S
  lk := lcs Y.ls
  S := Y.S.take 20
  ls := Y.ls.take 30
  hst := fun i b h => by
    rw [List.getElem?_take] at h
    split at h
    · exact bc_get h
    · cases h
  hlk := fun i l h j v hv => by
    rw [List.getElem?_take] at h
    split at h
    · have := lcs_get _ i l h j v hv
      simpa using this
    · cases h
  hsa := sl_take Y.hsa (by simp; omega)
  hsb := sl_take Y.hsb (by simp; omega)
  avs := bc_av _
  avk := lcs_av _
  hS := by simp; omega
  hL := by simp; omega
theorem Raw.few_d (Y : Raw) : Y.few.ls.length ≤ Y.few.d := by
  have := Y.hd
  show (Y.ls.take 30).length ≤ Y.d
  simp; omega
theorem Raw.few_d2 (Y : Raw) : Y.few.d < openCap := Y.hd2
theorem Raw.small (Y : Raw) {k : Nat} (hk : 2 ≤ k) : En.small k 5 Y.v = true := by
  show En.smallL (En.small k 4) [_, _, _] = true
  simp only [En.smallL, sl_small Y.hsa (by omega : 0 < k), sl_small Y.hsb (by omega : 1 < k)]
  rfl
theorem Raw.smallH (Y : Raw) (k : Nat) : En.smallH k Y.V = true := by simp [En.smallH, Raw.V, small_avL (bc_av _), small_avL (lcs_av _)]
theorem Raw.hV (Y : Raw) {rest : List Value} {v : Value} (h : (En.smallL (En.small 2 5) rest && En.small 2 5 v) = true) : (nodupN (roHp Y.V) && below 2 Y.V && En.smallL (En.small 2 5) (Y.v :: rest) && En.small 2 5 v) = true := by
  simp only [Bool.and_eq_true] at h
  have h1 : (nodupN (roHp Y.V) && below 2 Y.V) = true := by kernel_rfl
  simp only [h1, En.smallL, Y.small (Nat.le_refl 2), h.1, h.2, Bool.and_self]
theorem Raw.fewv (Y : Raw) : Y.few.v = tv Y.N Y.sa (min Y.S.length 20) Y.c Y.sb (min Y.ls.length 30) Y.d := by
  show tv _ _ (Y.S.take 20).length _ _ (Y.ls.take 30).length _ = _
  rw [List.length_take, List.length_take, Nat.min_comm, Nat.min_comm 30]
  rfl
theorem few_m (Y : Raw) (nx : Nat) : Memo.Ok Try.prog ⟨11, nx, [Y.v], Y.V, Y.few.v, [], nx⟩ := by
  have h := few_0 (N := Y.N) Y.hsa Y.hsb Y.hc Y.hc2 Y.hd Y.hd2 (bc_av Y.S) (lcs_av Y.ls)
  rw [← Y.fewv] at h
  have hb : below 2 Y.V = true := by kernel_rfl
  have hr : renV (shift (fun b => b) 2 nx) 5 Y.v = Y.v := by
    show Value.agg ([_, _, _] : List Value).toArray = _
    have h0 : shift (fun b => b) 2 nx 0 = 0 := rfl
    have h1 : shift (fun b => b) 2 nx 1 = 1 := rfl
    rw [sl_ren Y.hsa h0, sl_ren Y.hsb h1]
    rfl
  have := memo_ren h (fun b => b) nx Y.V (by simp only [En.smallL, show En.small 2 5 (tv Y.N Y.sa Y.S.length Y.c Y.sb Y.ls.length Y.d) = true from Y.small (Nat.le_refl 2), Y.few.small (Nat.le_refl 2), show below 2 [(0, bc Y.S), (1, lcs Y.ls)] = true from hb, inNew, Bool.and_self]) (Y.smallH 2) rfl (fun b cs hb => by
    by_cases h0 : 0 = b
    · subst h0
      simp [Raw.V, roHp, Hp.get] at hb ⊢
      subst hb
      exact (renV_avL (bc_av _)).symm
    · by_cases h1 : 1 = b
      · subst h1
        simp [Raw.V, roHp, Hp.get] at hb ⊢
        subst hb
        exact (renV_avL (lcs_av _)).symm
      · simp [roHp, Hp.get, h0, h1] at hb)
  simp only [List.map_cons, List.map_nil, show renV (shift (fun b => b) 2 nx) 5 (tv Y.N Y.sa Y.S.length Y.c Y.sb Y.ls.length Y.d) = Y.v from hr, Y.few.ren, renH, Nat.sub_self, Nat.add_zero] at this
  exact this
end Go.Proofs.Ytkngbmaomgfcjaa.topo
