/- The engine, part OL: a row's slices of flat elements, nil or not, as blocks; ints; several blocks. -/
import Derived.Test.YtjconcfkpgkbkaaEnOK
namespace Go.En
set_option linter.unusedVariables false
variable {P : Program} {φ : Ren} {H : Hp} {K : Nat → Prop} {w : World}
open Go.RowKit Go.ChangeShapes Go.WideShapes

/-- A block of cells stands somewhere. -/
def CellsAt (w : World) (b : Nat) : Prop := ∃ arr el fr, w.heap[b]? = some (.cells arr el fr)
/-- The slice v' of the world is the abstract slice over block b. -/
structure SlAt (w : World) (b n c : Nat) (sa : Option Addr) (cs : List Value) (v' : Value) (L : Loc) : Prop where
  blk : ∃ arr el fr, w.heap[L.blk]? = some (.cells arr el fr) ∧ ∀ (j : Nat) u, cs[j]? = some u → arr[L.off + j]? = some u
  val : (sa = none ∧ v' = .slice none 0 0 ∧ n = 0 ∧ c = 0) ∨ (sa = some ⟨b, 0, none⟩ ∧ v' = .slice (some ⟨L.blk, L.off, none⟩) n c)
  le : n ≤ c
  lt : c < openCap
theorem SlAt.sl {b n c : Nat} {sa : Option Addr} {cs : List Value} {v' : Value} {L : Loc} (h : SlAt w b n c sa cs v' L) : Sl b n sa := by
  rcases h.val with ⟨h1, _, h2, _⟩ | ⟨h1, _⟩
  · exact .inl ⟨h1, h2⟩
  · exact .inr h1
theorem SlAt.rel {b n c : Nat} {sa : Option Addr} {cs : List Value} {v' : Value} {L : Loc} (h : SlAt w b n c sa cs v' L) (hφ : φ b = some L) : VRel φ (.slice sa n c) v' := by
  rcases h.val with ⟨rfl, rfl, rfl, rfl⟩ | ⟨rfl, rfl⟩
  · exact .slN 0 0
  · have := VRel.sl (φ := φ) b 0 n c L hφ h.lt
    simpa using this
theorem SlAt.brel {b n c : Nat} {sa : Option Addr} {cs : List Value} {v' : Value} {L : Loc} (h : SlAt w b n c sa cs v' L) (ha : avL cs = true) : BRel φ w L (.cells cs true) := by
  obtain ⟨arr, el, fr, h1, h2⟩ := h.blk
  refine ⟨arr, el, fr, h1, fun j v hv => ⟨v, h2 j v hv, ?_⟩, fun h => by cases h⟩
  obtain ⟨v', e1, e2⟩ := (avL_rel (φ := φ) ha).get hv
  rw [hv] at e1; cases e1; exact e2
def cellsOfL {α : Type} (f : α → List Value) : List α → List Value
  | [] => []
  | a :: r => f a ++ cellsOfL f r
theorem cellsOfL_inv {α : Type} {f : α → List Value} {s : Nat} (hf : ∀ a, (f a).length = s) : ∀ {l : List α} {j : Nat} {v : Value}, (cellsOfL f l)[j]? = some v → ∃ i a r, l[i]? = some a ∧ (f a)[r]? = some v ∧ j = i * s + r
  | [], j, v, h => by simp [cellsOfL] at h
  | p :: l, j, v, h => by
    simp only [cellsOfL] at h
    by_cases hj : j < (f p).length
    · rw [List.getElem?_append_left hj] at h
      exact ⟨0, p, j, rfl, h, by omega⟩
    · rw [List.getElem?_append_right (by omega)] at h
      obtain ⟨i, q, r, h1, h2, h3⟩ := cellsOfL_inv hf h
      have := hf p
      exact ⟨i + 1, q, r, by simpa using h1, h2, by rw [Nat.add_mul]; omega⟩
section
variable {T : Type} {enc : TypeId × Value → T} {base : Nat} {spare : Nat → Bool} {held : Bool}
theorem open_at {α : Type} {f : α → List Value} {s : Nat} {r : Reach} {b0 : Nat} {t e : TypeId} {v : Value} {x : DataW T × List MemPlace} {fuel n : Nat} {ls : List Leaf} (ht : P.underlying t = some (.slice e)) (hv : Cell.okWide P w r b0 t v)
    (hd : DataW.trod enc P w base spare held fuel t [v] = some x) (hfl : flat P n e = some ls) (hs : P.cellsOf e = s) (hf : ∀ a, (f a).length = s) (hrow : ∀ row, LeafL ls row → ∃ a, row = f a) (h0 : CellsAt w 0) (b : Nat) :
    ∃ (l : List α) (sa : Option Addr) (c : Nat) (L : Loc), SlAt w b l.length c sa (cellsOfL f l) v L := by
  rcases open_sl ht hv hd hfl with h | ⟨bb, o, len, cap, arr, el, fr, rfl, h1, h2, h3, h4⟩
  · obtain ⟨arr, el, fr, h0⟩ := h0
    exact ⟨[], none, 0, ⟨0, 0, 0⟩, ⟨arr, el, fr, h0, fun j u hu => by simp [cellsOfL] at hu⟩, .inl ⟨rfl, h, rfl, rfl⟩, Nat.le_refl _, by simp [openCap]⟩
  · obtain ⟨l, hl, hq⟩ := list_of (Φ := fun i (p : α) => ∀ (j : Nat) u, (f p)[j]? = some u → arr[o + i * s + j]? = some u) len (fun i hi => by
      obtain ⟨row, hr1, hr2⟩ := h4 i hi
      obtain ⟨p, rfl⟩ := hrow row hr1
      rw [hs] at hr2
      exact ⟨p, hr2⟩)
    subst hl
    refine ⟨l, some ⟨b, 0, none⟩, cap, ⟨bb, o, 0⟩, ⟨arr, el, fr, h3, fun j u hu => ?_⟩, .inr ⟨rfl, rfl⟩, h1, by unfold maxLen at h2; unfold openCap; omega⟩
    obtain ⟨i, p, r, e1, e2, e3⟩ := cellsOfL_inv hf hu
    have := hq i p e1 r u e2
    rw [← this]
    congr 1; dsimp only; omega
/-- A struct's fields, each read. -/
theorem trod_flds {t : TypeId} {fs : Array Field} {fuel : Nat} {cs : List Value} {x : DataW T × List MemPlace} (hu : P.underlying t = some (.struct fs)) (h : DataW.trod enc P w base spare held fuel t cs = some x) :
    cs.length = P.cellsOf t ∧ ∀ f ∈ fs.toList, ∃ fuel' y, DataW.trod enc P w base spare held fuel' f.type ((cs.drop f.offset).take (P.cellsOf f.type)) = some y := by
  cases fuel with
  | zero => cases h
  | succ fuel =>
    simp only [DataW.trod, hu] at h
    split at h
    · rename_i hl
      simp only [Option.map_eq_some_iff] at h
      obtain ⟨xs, hxs, _⟩ := h
      exact ⟨hl, fun f hf => let ⟨y, hy⟩ := mapM_all hxs f hf; ⟨fuel, y, hy⟩⟩
    · cases h
def fieldsOf (P : Program) (t : TypeId) : Option (List (Nat × Nat)) := match P.underlying t with
  | some (.struct fs) => some (fs.toList.map fun f => (f.type, f.offset))
  | _ => none
/-- A struct's value: its cells, of their types, and its fields read. -/
theorem open_agg {r : Reach} {b0 : Nat} {t : TypeId} {v : Value} {d : DataW T} {ps : List MemPlace} {fl : List (Nat × Nat)} {ts : List TypeId} (hf : fieldsOf P t = some fl) (hts : P.cellTypes P.depth t = some ts) (hv : Value.okWide P w r b0 t v) (hd : DataW.Trod enc P w base spare held t v d ps) :
    ∃ cs : List Value, v = .agg cs.toArray ∧ cs.length = P.cellsOf t ∧ (∀ p ∈ fl, ∃ fuel y, DataW.trod enc P w base spare held fuel p.1 ((cs.drop p.2).take (P.cellsOf p.1)) = some y) ∧
      ∀ (i : Nat) u, cs[i]? = some u → ∃ t', ts[i % ts.length]? = some t' ∧ Cell.okWide P w r b0 t' u := by
  unfold fieldsOf at hf
  split at hf
  case h_2 => cases hf
  rename_i fs hu
  cases hf
  simp only [Value.okWide, hu] at hv
  obtain ⟨cs, rfl, hsz, ts', hts', _, hcell⟩ := hv
  rw [hts] at hts'
  cases hts'
  obtain ⟨fuel, hfu⟩ := hd
  obtain ⟨h1, h2⟩ := trod_flds hu hfu
  refine ⟨cs.toList, rfl, by simpa using hsz, fun p hp => ?_, fun i u hu => hcell i u (by simpa using hu)⟩
  obtain ⟨f, hf, rfl⟩ := List.mem_map.1 hp
  exact h2 f hf
end
/-- The first block of every world that is shaped by a program without variables. -/
theorem cells_0 (hw : w.ShapedOpen P) (hg : P.globals.size = 0) (h0 : ∃ arr el fr, (begin P (fun _ _ => 0) default).world.heap[0]? = some (.cells arr el fr)) : CellsAt w 0 := by
  obtain ⟨arr, el, fr, h0⟩ := h0
  have hlt : 0 < (begin P (fun _ _ => 0) default).world.heap.size := (Array.getElem?_eq_some_iff.1 h0).1
  obtain ⟨o, o₀, h1, h2, h3⟩ := hw.2 0 (by omega) hlt
  rw [hg] at h3
  simp [World.looseAt] at h3
  rw [h0] at h2
  cases h2
  exact ⟨arr, el, fr, by rw [h1, h3]⟩
/-- Names and places. -/
def renL : List Loc → Ren := fun l b => l[b]?
theorem good_V {V : List (Nat × List Value)} {Ls : List Loc} (h : ∀ b cs, (roHp V).get b = some (.cells cs true) → ∃ L, Ls[b]? = some L ∧ BRel (renL Ls) w L (.cells cs true)) : Good (renL Ls) (roHp V) (fun c => c < w.heap.size) w := good_ro h
end Go.En
