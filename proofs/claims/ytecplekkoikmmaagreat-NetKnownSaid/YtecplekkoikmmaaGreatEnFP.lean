/- The engine, part FP: a map's entries in any order (not yet used by the other parts). -/
import Derived.MapKept
namespace Go.En
set_option linter.unusedVariables false

/-- All keys are integers of a kind. -/
def KindK (k : IntKind) (xs : List MapEntry) : Prop := ∀ x ∈ xs, ∃ n, x.key = .int k n
def Apart (xs : List MapEntry) : Prop := xs.Pairwise fun x y => x.key ≠ y.key

theorem KindK.isKey {k : IntKind} {xs : List MapEntry} (h : KindK k xs) : ∀ x ∈ xs, MapKept.IsKey (.int k) x.key := fun x hx => by
  obtain ⟨n, hn⟩ := h x hx
  rw [hn]
  simp [MapKept.IsKey]
theorem KindK.perm {k : IntKind} {xs ys : List MapEntry} (h : KindK k xs) (hp : ys.Perm xs) : KindK k ys := fun x hx => h x (hp.mem_iff.1 hx)
theorem Apart.perm {xs ys : List MapEntry} (h : Apart xs) (hp : ys.Perm xs) : Apart ys :=
  (hp.pairwise_iff (fun h e => h e.symm)).2 h

theorem sameNow_int (k k' : IntKind) (j u : Value) : Instr.sameNow (.int k) j u = Instr.sameNow (.int k') j u := by
  cases j <;> cases u <;> rfl
theorem findNow_int (k k' : IntKind) (j : Value) : ∀ (xs : List MapEntry) (i : Nat), Instr.findNow (.int k) j xs i = Instr.findNow (.int k') j xs i
  | [], _ => rfl
  | e :: es, i => by
    simp only [Instr.findNow, sameNow_int k k' j e.key, findNow_int k k' j es]
/-- A search that is answered is for a key of the kind of the entries. -/
theorem findNow_kind {k k' : IntKind} {d : IntKind} {n m : Int} {x : MapEntry} {xs : List MapEntry} {i : Nat} {r : Option (Nat × Value)} (h : Instr.findNow (.int d) (.int k' m) (x :: xs) i = some r) (hx : x.key = .int k n) : k' = k := by
  simp only [Instr.findNow, hx, Instr.sameNow] at h
  by_cases hk : k' = k
  · exact hk
  · simp [hk] at h

theorem apart_eq {xs : List MapEntry} (h : Apart xs) {s t : Nat} {e f : MapEntry} (he : xs[s]? = some e) (hf : xs[t]? = some f) (hk : e.key = f.key) : s = t := by
  obtain ⟨hs, rfl⟩ := List.getElem?_eq_some_iff.1 he
  obtain ⟨ht, rfl⟩ := List.getElem?_eq_some_iff.1 hf
  have := List.pairwise_iff_getElem.1 h
  rcases Nat.lt_trichotomy s t with hlt | heq | hgt
  · exact absurd hk (this s t hs ht hlt)
  · exact heq
  · exact absurd hk.symm (this t s ht hs hgt)

theorem find_in {k : IntKind} {m : Int} {xs : List MapEntry} (hk : KindK k xs) (ha : Apart xs) {e : MapEntry} (he : e ∈ xs) (hkey : e.key = .int k m) :
    ∃ t, Instr.findNow (.int k) (.int k m) xs 0 = some (some (t, e.val)) ∧ xs[t]? = some e := by
  rcases MapKept.findNow_spec (d := .int k) (k := .int k m) (by simp [MapKept.IsKey]) xs 0 hk.isKey with ⟨_, h2⟩ | ⟨t, f, h1, h2, h3⟩
  · exact absurd hkey (h2 e he)
  · obtain ⟨s, hs⟩ := List.getElem?_of_mem he
    have := apart_eq ha hs h2 (by rw [hkey, h3])
    subst this
    rw [hs] at h2
    cases h2
    exact ⟨s, by rw [h1, Nat.zero_add], hs⟩
theorem find_out {k : IntKind} {m : Int} {xs : List MapEntry} (hk : KindK k xs) (h : ∀ e ∈ xs, e.key ≠ .int k m) : Instr.findNow (.int k) (.int k m) xs 0 = some none := by
  rcases MapKept.findNow_spec (d := .int k) (k := .int k m) (by simp [MapKept.IsKey]) xs 0 hk.isKey with ⟨h1, _⟩ | ⟨t, f, _, h2, h3⟩
  · exact h1
  · exact absurd h3 (h f (List.mem_of_getElem? h2))

/-- In whatever order the entries stand, the same is found. -/
theorem find_perm_some {k : IntKind} {m : Int} {xs ys : List MapEntry} (hp : ys.Perm xs) (hk : KindK k xs) (ha : Apart xs) {i : Nat} {u : Value} (h : Instr.findNow (.int k) (.int k m) ys 0 = some (some (i, u))) :
    ∃ t e, Instr.findNow (.int k) (.int k m) xs 0 = some (some (t, u)) ∧ xs[t]? = some e ∧ ys[i]? = some e ∧ e.key = .int k m ∧ e.val = u := by
  rcases MapKept.findNow_spec (d := .int k) (k := .int k m) (by simp [MapKept.IsKey]) ys 0 (hk.perm hp).isKey with ⟨h1, _⟩ | ⟨t, f, h1, h2, h3⟩
  · rw [h1] at h; cases h
  · rw [h1] at h
    simp only [Option.some.injEq, Prod.mk.injEq, Nat.zero_add] at h
    obtain ⟨rfl, rfl⟩ := h
    obtain ⟨s, hs1, hs2⟩ := find_in hk ha (hp.mem_iff.1 (List.mem_of_getElem? h2)) h3
    exact ⟨s, f, hs1, hs2, h2, h3, rfl⟩
theorem find_perm_none {k : IntKind} {m : Int} {xs ys : List MapEntry} (hp : ys.Perm xs) (hk : KindK k xs) (h : Instr.findNow (.int k) (.int k m) ys 0 = some none) : Instr.findNow (.int k) (.int k m) xs 0 = some none := by
  rcases MapKept.findNow_spec (d := .int k) (k := .int k m) (by simp [MapKept.IsKey]) ys 0 (hk.perm hp).isKey with ⟨_, h2⟩ | ⟨t, f, h1, _, _⟩
  · exact find_out hk fun e he => h2 e (hp.mem_iff.2 he)
  · rw [h1] at h; cases h
end Go.En
