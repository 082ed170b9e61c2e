/- The engine, part OK: slices that may be nil, over blocks of cells; loads, stores, made slices at places that are not literal. -/
import Derived.Test.YtjconcfkpgkbkaaEnOJ
namespace Go.En
set_option linter.unusedVariables false
variable {P : Program} {φ : Ren} {H : Hp} {K : Nat → Prop} {w : World}

/-- A slice over block b from its first cell on, or nil. -/
def Sl (b n : Nat) (sa : Option Addr) : Prop := (sa = none ∧ n = 0) ∨ sa = some ⟨b, 0, none⟩
theorem Sl.ix {t e : TypeId} {inf : TypeInfo} {b n c i : Nat} {k : IntKind} {sa : Option Addr} (h : Sl b n sa) (hu : P.underlying t = some (.slice e)) (he : P.info? e = some inf) (hi : i < n) :
    doIndexAddr P t (.slice sa n c) (.int k i) = some (.pointer (some ⟨b, 0 + i * inf.size, none⟩)) := by
  rcases h with ⟨_, h0⟩ | rfl
  · omega
  · exact ix_at hu he hi
/-- The size of a type's values in cells. -/
def szIs (P : Program) (t : TypeId) (n : Nat) (agg : Bool) : Bool := match P.underlying t, P.info? t with
  | some d, some i => i.size == n && (aggD d == agg)
  | _, _ => false
theorem szIs_some {t : TypeId} {n : Nat} {agg : Bool} (h : szIs P t n agg = true) : ∃ d i, P.underlying t = some d ∧ P.info? t = some i ∧ i.size = n ∧ aggD d = agg := by
  unfold szIs at h
  split at h
  · rename_i d i h1 h2
    simp only [Bool.and_eq_true, beq_iff_eq] at h
    exact ⟨d, i, h1, h2, h.1, h.2⟩
  · cases h
theorem Sl.ix' {t e : TypeId} {b n c i s : Nat} {agg : Bool} {k : IntKind} {sa : Option Addr} (h : Sl b n sa) (hu : P.underlying t = some (.slice e)) (he : szIs P e s agg = true) (hi : i < n) :
    doIndexAddr P t (.slice sa n c) (.int k i) = some (.pointer (some ⟨b, 0 + i * s, none⟩)) := by
  obtain ⟨d, inf, h1, h2, h3, h4⟩ := szIs_some he
  rw [← h3]
  exact h.ix hu h2 hi
theorem ld1 {t : TypeId} {b o : Nat} {cs : List Value} {ro : Bool} {v : Value} (hs : szIs P t 1 false = true) (hv : cs[o]? = some v) : doLoad P [(b, .cells cs ro)] t (.pointer (some ⟨b, o, none⟩)) = some v := by
  obtain ⟨d, i, h1, h2, h3, h4⟩ := szIs_some hs
  simp only [doLoad, Hp.get, beq_self_eq_true, if_true, h1, h2, h4, hv]
  simp
theorem take_eq {cs ds : List Value} {o n : Nat} (hn : ds.length = n) (hp : ∀ (j : Nat) v, ds[j]? = some v → cs[o + j]? = some v) : (cs.drop o).take n = ds := by
  apply List.ext_getElem?
  intro j
  rw [List.getElem?_take]
  by_cases hj : j < n
  · rw [if_pos hj, List.getElem?_drop]
    have hd : ds[j]? = some ds[j] := List.getElem?_eq_getElem (by omega)
    rw [hd, hp j _ hd]
  · rw [if_neg hj, List.getElem?_eq_none (by omega)]
theorem ldN {t : TypeId} {b o n : Nat} {cs ds : List Value} {ro : Bool} (hs : szIs P t (n + 1) true = true) (hn : ds.length = n + 1) (hp : ∀ (j : Nat) v, ds[j]? = some v → cs[o + j]? = some v) : doLoad P [(b, .cells cs ro)] t (.pointer (some ⟨b, o, none⟩)) = some (.agg ds.toArray) := by
  obtain ⟨d, i, h1, h2, h3, h4⟩ := szIs_some hs
  have hd : ds[n]? = some ds[n] := List.getElem?_eq_getElem (by omega)
  have hlen : o + (n + 1) ≤ cs.length := by
    have := hp n _ hd
    have := (List.getElem?_eq_some_iff.1 this).1
    omega
  simp only [doLoad, Hp.get, beq_self_eq_true, if_true, h1, h2, h4, h3, hlen, take_eq hn hp]
theorem spl_set {cs : List Value} {o : Nat} {x : Value} (h : o < cs.length) : spl cs o [x] = cs.set o x := by
  apply List.ext_getElem?
  intro j
  rw [spl_get cs o [x] (by simp; omega), List.getElem?_set]
  simp only [List.length_singleton]
  by_cases h1 : j < o
  · simp [h1, show o ≠ j by omega]
  · by_cases h2 : j < o + 1
    · have : j = o := by omega
      subst this; simp [h]
    · simp [h1, h2, show o ≠ j by omega]
/-- One cell is stored. -/
theorem st1 {t : TypeId} {b o : Nat} {cs : List Value} {x : Value} (hs : szIs P t 1 false = true) (ho : o < cs.length) (hx : (flatV x && oneL x.cells.toList) = true) (hc : x.cells.toList = [x]) :
    doStore P [(b, .cells cs false)] t (.pointer (some ⟨b, o, none⟩)) x = some [(b, .cells (cs.set o x) false)] := by
  obtain ⟨d, i, h1, h2, h3, h4⟩ := szIs_some hs
  simp only [Bool.and_eq_true] at hx
  rw [hc] at hx
  have hle : o + 1 ≤ cs.length := ho
  simp only [doStore, Hp.get, beq_self_eq_true, if_true, h2, hx.1, hx.2, h3, hc, List.length_singleton, Bool.and_self, hle, decide_true, List.isEmpty_cons, Bool.false_eq_true, if_false, Hp.set, spl_set ho]
/-- A slice made of n zeroes. -/
theorem mk_n {t e : TypeId} {n : Nat} {z : Value} {by_ : Nat} (hu : P.underlying t = some (.slice e)) (hi : (match P.info? e with | some i => i.size == 1 && i.bytes == by_ && (match i.zero with | some y => y.cells.size == 1 | none => false) | none => false) = true)
    (hz : (match P.info? e with | some i => (match i.zero with | some y => y.cells[0]? | none => none) | none => none) = some z) (hav : av1 z = true) (hby : by_ ≤ 8) (hn : n ≤ 1000) :
    Hint.Ok P (.mk t (.int .i64 n) (.int .i64 n) n (List.replicate n z)) := by
  intro H nx
  split at hi
  case h_2 => cases hi
  rename_i i he
  rw [he] at hz
  dsimp only at hz
  simp only [Bool.and_eq_true, beq_iff_eq] at hi
  obtain ⟨⟨h1, h2⟩, h3⟩ := hi
  cases hzz : i.zero with
  | none => rw [hzz] at h3; cases h3
  | some y =>
    rw [hzz] at h3 hz
    have h3 : y.cells.size = 1 := by simpa using h3
    have hz : y.cells[0]? = some z := hz
    have hget : ∀ k, y.cells[k % y.cells.size]! = z := by
      intro k
      rw [h3, Nat.mod_one]
      rw [getElem!_pos y.cells 0 (by omega)]
      have := (Array.getElem?_eq_some_iff.1 hz).2
      exact this
    have hl : ((Array.range ((n : Int).toNat * i.size)).map (y.cells[· % y.cells.size]!)).toList = List.replicate n z := by
      simp only [hget]
      rw [h1]
      simp [List.eq_replicate_iff]
    have hw : IntKind.i64.wrap (n : Int) = n := by
      simp only [IntKind.wrap, IntKind.signed, IntKind.bits]
      simp
      omega
    have ha : avL (List.replicate n z) = true := by
      clear hl hw hn
      induction n with
      | zero => rfl
      | succ n ih => simp only [List.replicate_succ, avL, hav, ih, Bool.and_self]
    have hb : (i.bytes : Int) * (n : Int) ≤ 2 ^ 48 := by
      rw [h2]
      have h1 : ((by_ : Int)) ≤ 8 := by omega
      have h2 : ((n : Int)) ≤ 1000 := by omega
      have : (by_ : Int) * n ≤ 8 * 1000 := Int.mul_le_mul h1 h2 (by omega) (by omega)
      have h4 : (2 : Int) ^ 48 = 281474976710656 := by decide
      omega
    have ho : (n : Int).toNat < openCap := by simp [openCap]; omega
    simp only [doMakeSlice, hu, he, hzz]
    rw [if_pos ⟨hw, hw, by omega, by omega, hb, ho, by omega, by rw [hl]; exact ha⟩, hl]
    simp
end Go.En
