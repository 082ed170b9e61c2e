/- The engine, part OJ: a row's arguments, opened: cells of flat types, slices of them, and the call of a law's function. -/
import Derived.Test.YtjconcfkpgkbkaaEnOI
namespace Go.En
set_option linter.unusedVariables false
variable {P : Program} {φ : Ren} {H : Hp} {K : Nat → Prop} {w : World}
open Go.RowKit Go.ChangeShapes Go.WideShapes

/-! ### Flat types: their cells are numbers and truth values -/
inductive Leaf where
  | b
  | i (k : IntKind)
def Leaf.is : Leaf → Value → Prop
  | .b, v => ∃ x, v = .bool x
  | .i k, v => ∃ n, v = .int k n ∧ (Lit.int k n).wf = true
def LeafL : List Leaf → List Value → Prop
  | [], [] => True
  | l :: ls, v :: vs => l.is v ∧ LeafL ls vs
  | _, _ => False
theorem LeafL.uncons {l : Leaf} {ls : List Leaf} {row : List Value} (h : LeafL (l :: ls) row) : ∃ v vs, row = v :: vs ∧ l.is v ∧ LeafL ls vs := by
  cases row with
  | nil => exact h.elim
  | cons v vs => exact ⟨v, vs, rfl, h.1, h.2⟩
theorem LeafL.done {row : List Value} (h : LeafL [] row) : row = [] := by
  cases row with
  | nil => rfl
  | cons v vs => exact h.elim
theorem LeafL.int {k : IntKind} {ls : List Leaf} {row : List Value} (h : LeafL (.i k :: ls) row) : ∃ n vs, row = .int k n :: vs ∧ (Lit.int k n).wf = true ∧ LeafL ls vs := by
  obtain ⟨v, vs, rfl, ⟨n, rfl, hw⟩, h2⟩ := h.uncons
  exact ⟨n, vs, rfl, hw, h2⟩
theorem LeafL.bool {ls : List Leaf} {row : List Value} (h : LeafL (.b :: ls) row) : ∃ n vs, row = .bool n :: vs ∧ LeafL ls vs := by
  obtain ⟨v, vs, rfl, ⟨n, rfl⟩, h2⟩ := h.uncons
  exact ⟨n, vs, rfl, h2⟩
theorem LeafL.append : ∀ {a b : List Leaf} {x y : List Value}, LeafL a x → LeafL b y → LeafL (a ++ b) (x ++ y)
  | [], _, [], _, _, h => h
  | l :: a, b, v :: x, y, h, k => ⟨h.1, LeafL.append h.2 k⟩
  | [], _, _ :: _, _, h, _ => h.elim
  | _ :: _, _, [], _, h, _ => h.elim
def flatFs (fl : TypeId → Option (List Leaf)) (sz : TypeId → Nat) : List Field → Nat → Option (List Leaf)
  | [], _ => some []
  | f :: fs, off => if f.offset = off then match fl f.type, flatFs fl sz fs (off + sz f.type) with
    | some a, some b => if a.length = sz f.type then some (a ++ b) else none
    | _, _ => none
    else none
def flat (P : Program) : Nat → TypeId → Option (List Leaf)
  | 0, _ => none
  | n + 1, t => match P.underlying t with
    | some .bool => some [.b]
    | some (.int k) => some [.i k]
    | some (.struct fs) => match flatFs (flat P n) P.cellsOf fs.toList 0 with
      | some ls => if ls.length = P.cellsOf t then some ls else none
      | none => none
    | _ => none
section
variable {T : Type} {enc : TypeId × Value → T} {base : Nat} {spare : Nat → Bool} {held : Bool}
theorem mapM_all {α β : Type} {g : α → Option β} : ∀ {l : List α} {xs : List β}, l.mapM g = some xs → ∀ a ∈ l, ∃ y, g a = some y
  | [], _, _, a, h => by cases h
  | x :: l, xs, h, a, ha => by
    simp only [List.mapM_cons, Option.bind_eq_bind, Option.bind_eq_some_iff] at h
    obtain ⟨y, hy, ys, hys, _⟩ := h
    rcases List.mem_cons.1 ha with rfl | ha
    · exact ⟨y, hy⟩
    · exact mapM_all hys a ha
theorem flatFs_of {fl : TypeId → Option (List Leaf)} {sz : TypeId → Nat} {cs : List Value} : ∀ {fs : List Field} {off : Nat} {ls : List Leaf}, flatFs fl sz fs off = some ls →
    (∀ f ∈ fs, ∀ a, fl f.type = some a → LeafL a ((cs.drop f.offset).take (sz f.type))) → off + ls.length = cs.length → LeafL ls (cs.drop off)
  | [], off, ls, h, _, hl => by
    simp only [flatFs, Option.some.injEq] at h
    subst h
    have : cs.drop off = [] := by simp at hl ⊢; omega
    rw [this]; trivial
  | f :: fs, off, ls, h, hf, hl => by
    simp only [flatFs] at h
    split at h
    case isFalse => cases h
    rename_i ho
    split at h
    case h_2 => cases h
    rename_i a b ha hb
    split at h
    case isFalse => cases h
    rename_i hz
    cases h
    have h1 := hf f (by simp) a ha
    have h2 := flatFs_of (cs := cs) hb (fun g hg => hf g (by simp [hg])) (by simp at hl; omega)
    rw [ho] at h1
    have e : cs.drop off = (cs.drop off).take (sz f.type) ++ cs.drop (off + sz f.type) := by
      rw [← List.drop_drop]; exact (List.take_append_drop _ _).symm
    rw [e]
    exact h1.append h2
theorem flat_of : ∀ (n : Nat) {t : TypeId} {ls : List Leaf} {fuel : Nat} {cs : List Value} {x : DataW T × List MemPlace}, flat P n t = some ls → DataW.trod enc P w base spare held fuel t cs = some x → LeafL ls cs
  | 0, _, _, _, _, _, h, _ => by cases h
  | n + 1, t, ls, 0, cs, x, _, h => by cases h
  | n + 1, t, ls, fuel + 1, cs, x, h, hx => by
    simp only [flat] at h
    split at h
    · rename_i hu
      cases h
      simp only [DataW.trod, hu] at hx
      split at hx <;> first | (rename_i e1 e2; cases e1; done) | skip
      all_goals first | exact ⟨⟨_, rfl⟩, trivial⟩ | (simp_all; done) | cases hx
    · rename_i k hu
      cases h
      obtain ⟨m, h1, h2, h3⟩ := DataW.trod_int hu hx
      subst h1
      exact ⟨⟨m, rfl, h3⟩, trivial⟩
    · rename_i fs hu
      split at h
      case h_2 => cases h
      rename_i ls' hls
      split at h
      case isFalse => cases h
      rename_i hlen
      cases h
      simp only [DataW.trod, hu] at hx
      have hx : cs.length = P.cellsOf t ∧ ∃ xs, (fs.toList.mapM fun f => DataW.trod enc P w base spare held fuel f.type ((cs.drop f.offset).take (P.cellsOf f.type))) = some xs := by
        split at hx
        · rename_i hl
          simp only [Option.map_eq_some_iff] at hx
          obtain ⟨xs, hxs, _⟩ := hx
          exact ⟨hl, xs, hxs⟩
        · cases hx
      obtain ⟨hl, xs, hxs⟩ := hx
      have := flatFs_of (cs := cs) hls (fun f hf a ha => by
        obtain ⟨y, hy⟩ := mapM_all hxs f hf
        exact flat_of n ha hy) (by omega)
      simpa using this
    · cases h

theorem list_of {α : Type} {Φ : Nat → α → Prop} : ∀ (n : Nat), (∀ i, i < n → ∃ q, Φ i q) → ∃ l : List α, l.length = n ∧ ∀ i q, l[i]? = some q → Φ i q
  | 0, _ => ⟨[], rfl, fun i q h => by simp at h⟩
  | n + 1, h => by
    obtain ⟨l, hl, hq⟩ := list_of n fun i hi => h i (by omega)
    obtain ⟨q, hn⟩ := h n (by omega)
    refine ⟨l ++ [q], by simp [hl], fun i q' hi => ?_⟩
    by_cases hlt : i < l.length
    · rw [List.getElem?_append_left hlt] at hi; exact hq i q' hi
    · rw [List.getElem?_append_right (by omega)] at hi
      have : i - l.length = 0 := by
        have := (List.getElem?_eq_some_iff.1 hi).1
        simp at this; omega
      rw [this] at hi
      simp at hi
      subst hi
      have : i = n := by omega
      rw [this]; exact hn
/-- A slice of flat elements. -/
theorem open_sl {r : Reach} {b0 : Nat} {t e : TypeId} {v : Value} {x : DataW T × List MemPlace} {fuel n : Nat} {ls : List Leaf} (ht : P.underlying t = some (.slice e)) (hv : Cell.okWide P w r b0 t v)
    (hd : DataW.trod enc P w base spare held fuel t [v] = some x) (hfl : flat P n e = some ls) :
    v = .slice none 0 0 ∨ ∃ b o len cap arr el fr, v = .slice (some ⟨b, o, none⟩) len cap ∧ len ≤ cap ∧ cap ≤ maxLen ∧ w.heap[b]? = some (.cells arr el fr) ∧
      ∀ i, i < len → ∃ row, LeafL ls row ∧ ∀ (j : Nat) u, row[j]? = some u → arr[o + i * P.cellsOf e + j]? = some u := by
  rcases DataW.trod_slice ht hd with ⟨h0, _⟩ | ⟨a, len, cap, elems, rest, m, _, h0, _, hb, hl, hm, hlen, hel, hsp, hns⟩
  · left; simpa using h0
  · right
    have h0 : v = .slice (some a) len cap := by simpa using h0
    subst h0
    simp only [Cell.okWide, ht, Cell.ok] at hv
    obtain ⟨_, _, _, hspot, row, cells, hshape, _⟩ := hv
    obtain ⟨b, o, sp⟩ := a
    dsimp only at hspot
    subst hspot
    unfold World.shape? at hshape
    split at hshape
    case h_2 => cases hshape
    rename_i arr el fr hheap
    refine ⟨b, o, len, cap, arr, el, fr, rfl, hl, hm, hheap, fun i hi => ?_⟩
    have h1 := hel i hi
    have h2 : ∃ y, elems[i]? = some y := ⟨elems[i], List.getElem?_eq_getElem (by omega)⟩
    obtain ⟨y, hy⟩ := h2
    rw [hy, Option.bind_eq_some_iff] at h1
    obtain ⟨cs, hcs, htr⟩ := h1
    refine ⟨cs, flat_of n hfl htr, fun j u hu => ?_⟩
    obtain ⟨_, h3, h4⟩ := World.cells?_some hcs
    have hj : j < P.cellsOf e := by
      have := (List.getElem?_eq_some_iff.1 hu).1
      omega
    have h5 := h4 j hj
    rw [hu, Addr.add_none, Addr.add_none] at h5
    simpa [World.cell?, hheap] using h5
end

/-! ### The call of a law's function -/
theorem calls_open {f : FuncId} {n : Nat} {args : List Value} {V : List (Nat × List Value)} (hm : Memo.Ok P ⟨f, n, args, V, .bool true, [], n⟩) {us : List Value} (g : Good φ (roHp V) (fun c => c < w.heap.size) w) (hl : LRel φ args us) :
    Calls P f us.toArray w fun e w' => e = .returned (.bool true) ∧ Below w.heap.size w w' := by
  refine Calls.mono (hm.2.2 φ w (fun c => c < w.heap.size) us g (fun b h1 h2 => by dsimp only at h1 h2; omega) hl) ?_
  rintro e w' ⟨v', φ', rfl, x1, x2, x3, x4⟩
  cases x1
  exact ⟨rfl, below_of_went x4⟩
theorem good_ro {V : List (Nat × List Value)} (h : ∀ b cs, (roHp V).get b = some (.cells cs true) → ∃ L, φ b = some L ∧ BRel φ w L (.cells cs true)) : Good φ (roHp V) (fun c => c < w.heap.size) w := by
  have hro : ∀ (b : Nat) (k : Blk), (roHp V).get b = some k → k.rw = true → False := fun b k hb hk => by
    obtain ⟨cs, rfl⟩ := roHp_get hb
    simp [Blk.rw] at hk
  refine ⟨fun b k hb => ?_, fun b c k k' L L' hb hc hne hkr => (hro b k hb hkr).elim, fun b k L hb hkr => (hro b k hb hkr).elim, fun c hc => hc⟩
  obtain ⟨cs, rfl⟩ := roHp_get hb
  exact h b cs hb
/-- One block, of numbers and truth values. -/
def ren1 (b o : Nat) : Ren := fun c => if c = 0 then some ⟨b, o, 0⟩ else none
theorem good_one {b o : Nat} {cs : List Value} {arr : Array Value} {el : TypeId} {fr : Nat × Nat} (hb : w.heap[b]? = some (.cells arr el fr)) (hs : avL cs = true) (hc : ∀ (j : Nat) u, cs[j]? = some u → arr[o + j]? = some u) :
    Good (ren1 b o) (roHp [(0, cs)]) (fun c => c < w.heap.size) w := by
  refine good_ro fun c ds hcd => ?_
  by_cases h0 : 0 = c
  · subst h0
    simp [roHp, Hp.get] at hcd
    subst hcd
    refine ⟨⟨b, o, 0⟩, rfl, arr, el, fr, hb, fun j v hv => ⟨v, hc j v hv, ?_⟩, fun h => by cases h⟩
    obtain ⟨v', h1, h2⟩ := (avL_rel (φ := ren1 b o) hs).get hv
    rw [hv] at h1; cases h1; exact h2
  · simp [roHp, Hp.get, h0] at hcd
end Go.En
