/- The engine, part F: structs and arrays built and taken apart, slices made, copy. -/
import Derived.Test.YtecplekkoikmmaaGreatEnE
noncomputable section
namespace Go.En
set_option linter.unusedVariables false
variable {P : Program} {φ : Ren} {H : Hp} {K : Nat → Prop} {w : World}

def PRel (φ : Ren) : List (Nat × Value) → List (Nat × Value) → Prop
  | [], [] => True
  | x :: xs, y :: ys => y.1 = x.1 ∧ VRel φ x.2 y.2 ∧ PRel φ xs ys
  | _, _ => False

def flatP : List (Nat × Value) → Bool
  | [] => true
  | x :: xs => flatV x.2 && flatP xs

theorem foldl_set_rel : ∀ {xs ys : List Value} (k off : Nat) {cs ds : Array Value}, LRel φ xs ys → LRel φ cs.toList ds.toList →
    LRel φ ((xs.zipIdx k).foldl (fun (cs : Array Value) (p : Value × Nat) => cs.setIfInBounds (off + p.2) p.1) cs).toList ((ys.zipIdx k).foldl (fun (cs : Array Value) (p : Value × Nat) => cs.setIfInBounds (off + p.2) p.1) ds).toList
  | [], [], k, off, cs, ds, _, hc => by simpa using hc
  | x :: xs, y :: ys, k, off, cs, ds, h, hc => by
    simp only [List.zipIdx_cons, List.foldl_cons]
    refine foldl_set_rel (k + 1) off h.2 ?_
    simpa using hc.set h.1 (off + k)
  | [], _ :: _, _, _, _, _, h, _ => h.elim
  | _ :: _, [], _, _, _, _, h, _ => h.elim

theorem fill_rel (place : Nat → Option (Nat × Nat)) : ∀ {ps qs : List (Nat × Value)} {cs ds : Array Value} {out : Array Value}, PRel φ ps qs → flatP ps = true → LRel φ cs.toList ds.toList →
    Instr.fill place cs ps = some out → ∃ out', Instr.fill place ds qs = some out' ∧ LRel φ out.toList out'.toList
  | [], [], cs, ds, out, _, _, hc, h => by
    simp [Instr.fill] at h ⊢
    subst h; exact hc
  | (i, v) :: ps, (j, v') :: qs, cs, ds, out, hp, hf, hc, h => by
    obtain ⟨rfl, hv, hp⟩ := hp
    simp only [flatP, Bool.and_eq_true] at hf
    have hcells := hv.cells' hf.1
    have hl := hcells.length
    have hl2 := hc.length
    simp only [Array.length_toList] at hl hl2
    simp only [Instr.fill] at h ⊢
    cases hpl : place j with
    | none => simp [hpl] at h
    | some p =>
      obtain ⟨off, size⟩ := p
      simp only [hpl] at h ⊢
      rw [← hl, ← hl2]
      split at h
      · cases h
      · rename_i hcond
        rw [if_neg hcond]
        refine fill_rel place hp hf.2 ?_ h
        have := foldl_set_rel (φ := φ) 0 off hcells hc
        rw [← Array.foldl_toList, ← Array.foldl_toList, Array.toList_zipIdx, Array.toList_zipIdx]
        exact this
  | [], _ :: _, _, _, _, h, _, _, _ => h.elim
  | _ :: _, [], _, _, _, h, _, _, _ => h.elim

theorem plain_bind {α β : Type} (s : Sem α) (f : α → Sem β) : plain P (s.bind f) = (plain P s).bind fun a => plain P (f a) := by
  induction s with
  | pure a => rfl
  | program k ih => simpa [Sem.bind, plain] using ih P
  | mark m k ih => simpa [Sem.bind, plain] using ih
  | _ => rfl

def fplaces (P : Program) (fields : Array Field) : Option (Array (Nat × Nat)) := plain P (fields.mapM fun f => do pure (f.offset, ← sizeOf f.type) : Sem (Array (Nat × Nat)))

/-- Building a struct or an array value. -/
def doBuild (P : Program) (t : TypeId) (parts : List (Nat × Value)) : Option Value :=
  match infoF P t with
  | some i => match i.zero with
    | some z =>
      if avL z.cells.toList && flatP parts then
        match undF P t with
        | some (.struct fields) => match fplaces P fields with
          | some places => (Instr.fill (places[·]?) z.cells parts).map Value.agg
          | none => none
        | some (.array _ e) => match infoF P e with
          | some ie => (Instr.fill (fun i => some (i * ie.size, ie.size)) z.cells parts).map Value.agg
          | none => none
        | _ => none
      else none
    | none => none
  | none => none

theorem doBuild_ok {t : TypeId} {ps qs : List (Nat × Value)} {v : Value} (h : doBuild P t ps = some v) (hp : PRel φ ps qs) (w : World) :
    ∃ v', (Instr.build t qs.toArray).run P w = .ok v' w ∧ VRel φ v v' := by
  unfold doBuild at h
  simp only [infoF_eq, undF_eq] at h
  split at h
  case h_2 => cases h
  rename_i i hi
  split at h
  case h_2 => cases h
  rename_i z hz
  split at h
  case isFalse => cases h
  rename_i hc
  simp only [Bool.and_eq_true] at hc
  have hzr : LRel φ z.cells.toList z.cells.toList := avL_rel hc.1
  split at h
  · rename_i fields hu
    split at h
    · rename_i places hpl
      simp only [Option.map_eq_some_iff] at h
      obtain ⟨out, hout, rfl⟩ := h
      obtain ⟨out', ho', hr⟩ := fill_rel _ hp hc.2 hzr hout
      have hrun := plain_run (P := P) _ w hpl
      refine ⟨.agg out', ?_, .agg' hr⟩
      simp only [Instr.build, Sem.run_bind, run_zeroValue' hi hz, Result.andThen_ok, run_underlying hu, hrun, ho', Sem.run_pure]
    · cases h
  · rename_i n e hu
    split at h
    · rename_i ie hie
      simp only [Option.map_eq_some_iff] at h
      obtain ⟨out, hout, rfl⟩ := h
      obtain ⟨out', ho', hr⟩ := fill_rel _ hp hc.2 hzr hout
      refine ⟨.agg out', ?_, .agg' hr⟩
      simp only [Instr.build, Sem.run_bind, run_zeroValue' hi hz, Result.andThen_ok, run_underlying hu, run_sizeOf hie, ho', Sem.run_pure]
    · cases h
  · cases h

theorem range0 (f : Nat → Value) : (Array.range 0).map f = #[] := by apply Array.ext <;> simp
/-- A slice literal. -/
def doBuildSlice (P : Program) (H : Hp) (nx : Nat) (t : TypeId) (len : Nat) (parts : List (Nat × Value)) : Option (Value × Hp × Nat) :=
  match undF P t with
  | some (.slice e) => match infoF P e with
    | some ie => match ie.zero with
      | some z =>
        if len * ie.size ≤ 2 ^ 24 ∧ len < openCap ∧ avL z.cells.toList = true ∧ flatP parts = true ∧ 0 < z.cells.size then
          match Instr.fill (fun i => some (i * ie.size, ie.size)) ((Array.range (len * ie.size)).map (z.cells[· % z.cells.size]!)) parts with
          | some cells => if avL ((Array.range (len * ie.size)).map (z.cells[· % z.cells.size]!)).toList then some (.slice (some ⟨nx, 0, none⟩) len len, (nx, .cells cells.toList false) :: H, nx + 1) else none
          | none => none
        else none
      | none => none
    | none => none
  | _ => none

theorem doBuildSlice_ok (g : Good φ H K w) {nx : Nat} (hfr : φ nx = none) {t : TypeId} {len : Nat} {ps qs : List (Nat × Value)} {v : Value} {H' : Hp} {nx' : Nat}
    (h : doBuildSlice P H nx t len ps = some (v, H', nx')) (hp : PRel φ ps qs) :
    ∃ v' w' φ', (Instr.buildSlice t len qs.toArray).run P w = .ok v' w' ∧ VRel φ' v v' ∧ Ext φ φ' nx nx' ∧ Good φ' H' K w' ∧ Went K w w' ∧ nx ≤ nx' := by
  unfold doBuildSlice at h
  simp only [infoF_eq, undF_eq] at h
  split at h
  case h_2 => cases h
  rename_i e hu
  split at h
  case h_2 => cases h
  rename_i ie hie
  split at h
  case h_2 => cases h
  rename_i z hz
  split at h
  case isFalse => cases h
  rename_i hc
  obtain ⟨h24, hop, hzv, hf, hpos⟩ := hc
  split at h
  case h_2 => cases h
  rename_i cells hcells
  split at h
  case isFalse => cases h
  rename_i hav
  cases h
  obtain ⟨out', ho', hr⟩ := fill_rel _ hp hf (avL_rel hav) hcells
  have hg := g.make hfr hr e out'.toList.length [] (by simp)
  simp only [List.append_nil, Array.toArray_toList] at hg
  refine ⟨.slice (some ⟨w.heap.size, 0, none⟩) len len, w.alloc (.cells out' e), _, ?_, ?_, Ext.put hfr _, hg, Went.alloc g _, Nat.le_succ _⟩
  · have h24' : ¬ (len * ie.size > 2 ^ 24) := by omega
    by_cases h0 : len * ie.size = 0
    · rw [h0, range0] at ho'
      simp [Instr.buildSlice, run_underlying hu, run_sizeOf hie, h0, range0, ho', newRow]
    · simp [Instr.buildSlice, run_underlying hu, run_sizeOf hie, h24', h0, run_zeroValue' hie hz, ho', newRow] at h24' ⊢
  · have := VRel.sl (φ := φ.put nx ⟨w.heap.size, 0, out'.toList.length⟩) nx 0 len len _ (Ren.put_same _ _ _) hop
    simpa using this

/-- A part of a struct or array value. -/
def doPart (P : Program) (t : TypeId) (cs : List Value) (off : Nat) : Option Value :=
  match undF P t, infoF P t with
  | some d, some i => if aggD d then some (.agg ((cs.drop off).take i.size).toArray) else cs[off]?
  | _, _ => none
theorem extract_toList (cs : Array Value) (a n : Nat) : (cs.extract a (a + n)).toList = (cs.toList.drop a).take n := by
  simp [Array.toList_extract]
theorem doPart_ok {t : TypeId} {cs cs' : Array Value} {off : Nat} {v : Value} (h : doPart P t cs.toList off = some v) (hr : LRel φ cs.toList cs'.toList) (w : World) :
    ∃ v', (part t cs' off).run P w = .ok v' w ∧ VRel φ v v' := by
  unfold doPart at h
  simp only [infoF_eq, undF_eq] at h
  split at h
  · rename_i d i hu hi
    by_cases hd : aggD d = true
    · simp only [hd, if_true] at h
      cases h
      refine ⟨.agg (cs'.extract off (off + i.size)), by simp [part, run_isAgg hu, hd, run_sizeOf hi], .agg' ?_⟩
      rw [extract_toList]
      simpa using (hr.drop off).take i.size
    · have hd : aggD d = false := by simpa using hd
      simp only [hd, if_false, Bool.false_eq_true] at h
      obtain ⟨u, hu1, hu2⟩ := hr.get h
      have : cs'[off]? = some u := by simpa using hu1
      exact ⟨u, by simp [part, run_isAgg hu, hd, this], hu2⟩
  · cases h

def doField (P : Program) (t : TypeId) (f : Nat) : Value → Option Value
  | .agg cs => match undF P t with
    | some (.struct fields) => match fields[f]? with
      | some fl => doPart P fl.type cs.toList fl.offset
      | none => none
    | _ => none
  | _ => none
theorem doField_ok {t : TypeId} {f : Nat} {x x' v : Value} (h : doField P t f x = some v) (hx : VRel φ x x') (w : World) :
    ∃ v', (Instr.field t x' f).run P w = .ok v' w ∧ VRel φ v v' := by
  unfold doField at h
  simp only [undF_eq] at h
  split at h
  case h_2 => cases h
  split at h
  case h_2 => cases h
  rename_i fields hu
  split at h
  case h_2 => cases h
  rename_i fl hf
  obtain ⟨ys, rfl, hl⟩ := hx.agg_inv
  obtain ⟨v', h1, h2⟩ := doPart_ok h hl w
  exact ⟨v', by simp [Instr.field, run_underlying hu, hf, asAgg, h1], h2⟩

def doIndex (P : Program) (t : TypeId) (x i : Value) : Option Value :=
  match undF P t, x with
  | some (.array n e), .agg cs => match idx i n, infoF P e with
    | some j, some ie => doPart P e cs.toList (j * ie.size)
    | _, _ => none
  | some .string, .string s => if av i then sc P (Instr.index t (.string s) i) else none
  | _, _ => none
theorem doIndex_ok {t : TypeId} {x x' i i' v : Value} (h : doIndex P t x i = some v) (hx : VRel φ x x') (hi : VRel φ i i') (w : World) :
    ∃ v', (Instr.index t x' i').run P w = .ok v' w ∧ VRel φ v v' := by
  unfold doIndex at h
  simp only [infoF_eq, undF_eq] at h
  split at h
  · rename_i n e cs hu
    split at h
    · rename_i j ie hj hie
      obtain ⟨k, z, rfl, h0, h1, rfl⟩ := idx_some hj
      cases hi
      obtain ⟨ys, rfl, hl⟩ := hx.agg_inv
      obtain ⟨v', h2, h3⟩ := doPart_ok h hl w
      exact ⟨v', by simp [Instr.index, asIntOf, run_underlying hu, h0, h1, run_sizeOf hie, h2], h3⟩
    · cases h
  · split at h
    · rename_i hv
      cases hx
      rw [av_eq hv hi]
      exact ⟨v, sc_run h w⟩
    · cases h
  · cases h

def doExtract (n : Nat) : Value → Option Value
  | .tuple vs => vs.toList[n]?
  | _ => none
theorem doExtract_ok {n : Nat} {x x' v : Value} (h : doExtract n x = some v) (hx : VRel φ x x') (w : World) : ∃ v', (Instr.extract x' n).run P w = .ok v' w ∧ VRel φ v v' := by
  unfold doExtract at h
  split at h
  · obtain ⟨ys, rfl, hl⟩ := hx.tuple_inv
    obtain ⟨u, hu1, hu2⟩ := hl.get h
    have : ys[n]? = some u := by simpa using hu1
    exact ⟨u, by simp [Instr.extract, this], hu2⟩
  · cases h

/-- make([]T, l, c). -/
def doMakeSlice (P : Program) (H : Hp) (nx : Nat) (t : TypeId) (l c : Value) : Option (Value × Hp × Nat) :=
  match l, c, undF P t with
  | .int kl zl, .int kc zc, some (.slice e) => match infoF P e with
    | some ie => match ie.zero with
      | some z =>
        if IntKind.i64.wrap zl = zl ∧ IntKind.i64.wrap zc = zc ∧ 0 ≤ zl ∧ zl ≤ zc ∧ (ie.bytes : Int) * zc ≤ 2 ^ 48 ∧ zc.toNat < openCap ∧ 0 < z.cells.size ∧
            avL ((Array.range (zc.toNat * ie.size)).map (z.cells[· % z.cells.size]!)).toList = true then
          some (.slice (some ⟨nx, 0, none⟩) zl.toNat zc.toNat, (nx, .cells ((Array.range (zc.toNat * ie.size)).map (z.cells[· % z.cells.size]!)).toList false) :: H, nx + 1)
        else none
      | none => none
    | none => none
  | _, _, _ => none
theorem doMakeSlice_ok (g : Good φ H K w) {nx : Nat} (hfr : φ nx = none) {t : TypeId} {l c l' c' v : Value} {H' : Hp} {nx' : Nat} (h : doMakeSlice P H nx t l c = some (v, H', nx')) (hl : VRel φ l l') (hc : VRel φ c c') :
    ∃ v' w' φ', (Instr.makeSlice t l' c').run P w = .ok v' w' ∧ VRel φ' v v' ∧ Ext φ φ' nx nx' ∧ Good φ' H' K w' ∧ Went K w w' ∧ nx ≤ nx' := by
  unfold doMakeSlice at h
  simp only [infoF_eq, undF_eq] at h
  split at h
  case h_2 => cases h
  rename_i kl zl kc zc e hu
  split at h
  case h_2 => cases h
  rename_i ie hie
  split at h
  case h_2 => cases h
  rename_i z hz
  split at h
  case isFalse => cases h
  rename_i hcond
  obtain ⟨hw1, hw2, h0, h1, h48, hop, hpos, hav⟩ := hcond
  cases h
  cases hl
  cases hc
  have hg := g.make hfr (avL_rel hav) e ((Array.range (zc.toNat * ie.size)).map (z.cells[· % z.cells.size]!)).toList.length [] (by simp)
  simp only [List.append_nil, Array.toArray_toList] at hg
  refine ⟨.slice (some ⟨w.heap.size, 0, none⟩) zl.toNat zc.toNat, w.alloc (.cells ((Array.range (zc.toNat * ie.size)).map (z.cells[· % z.cells.size]!)) e), _, ?_, ?_, Ext.put hfr _, hg, Went.alloc g _, Nat.le_succ _⟩
  · have c1 : (decide (zc < 0) || decide ((ie.bytes : Int) * zc > 2 ^ 48)) = false := by simp; omega
    have c2 : ¬ (zl < 0) := by omega
    have c3 : ¬ (zl > zc) := by omega
    by_cases hq : zc.toNat * ie.size = 0
    · simp only [Instr.makeSlice, Sem.run_bind, run_underlying hu, Result.andThen_ok, asInt, asIntOf, typeInfo, run_program, hie, Sem.run_pure, hw1, hw2]
      simp only [c1, c2, c3, decide_false, Bool.or_false, Bool.false_eq_true, if_false, Sem.run_pure, Result.andThen_ok, run_askRoom, run_sizeOf hie, Sem.run_bind, hq, if_true, range0, newRow, run_newObj]
      rfl
    · simp only [Instr.makeSlice, Sem.run_bind, run_underlying hu, Result.andThen_ok, asInt, asIntOf, typeInfo, run_program, hie, Sem.run_pure, hw1, hw2]
      simp only [c1, c2, c3, decide_false, Bool.or_false, Bool.false_eq_true, if_false, Sem.run_pure, Result.andThen_ok, run_askRoom, run_sizeOf hie, Sem.run_bind, hq, run_zeroValue' hie hz, newRow, run_newObj]
      rfl
  · have := VRel.sl (φ := φ.put nx ⟨w.heap.size, 0, ((Array.range (zc.toNat * ie.size)).map (z.cells[· % z.cells.size]!)).toList.length⟩) nx 0 zl.toNat zc.toNat _ (Ren.put_same _ _ _) hop
    simpa using this

/-- copy(dst, src). -/
def doCopy (P : Program) (H : Hp) (t : TypeId) (d x : Value) : Option (Value × Hp) :=
  match undF P t, d, x with
  | some (.slice e), .slice (some ⟨b, o, none⟩) n _, .slice ax m cx => match infoF P e with
    | some ie =>
      if Nat.min m n = 0 then some (goInt 0, H) else
      match srcCells H ie.size (.slice ax (Nat.min m n) cx), H.get b with
      | some (_, news), some (.cells cs false) =>
        if oneL news ∧ o + news.length ≤ cs.length ∧ news ≠ [] then some (goInt (Nat.min m n), H.set b (.cells (spl cs o news) false)) else none
      | _, _ => none
    | none => none
  | some (.slice e), .slice none n _, .slice ax m cx => match infoF P e with
    | some ie => if n = 0 then some (goInt 0, H) else none
    | none => none
  | _, _, _ => none
theorem VRel.shorten {a : Option Addr} {m c k : Nat} {x' : Value} (h : VRel φ (.slice a m c) x') (hk : k ≤ m) : ∃ a' c', x' = .slice a' m c' ∧ VRel φ (.slice a k c) (.slice a' k c') := by
  cases h with
  | slN n c => exact ⟨_, _, rfl, .slN _ _⟩
  | sl b o n c L h hc => exact ⟨_, _, rfl, .sl b o _ c L h hc⟩
  | slO b o n c c' L h hc hn hl => exact ⟨_, _, rfl, .slO b o _ c c' L h hc (by omega) hl⟩
  | slE b o c a' L h hc =>
    have : k = 0 := by omega
    subst this
    exact ⟨_, _, rfl, .slE b o c a' L h hc⟩

theorem doCopy_ok (g : Good φ H K w) {t ts ty : TypeId} {d x d' x' v : Value} {H' : Hp} (h : doCopy P H t d x = some (v, H')) (hd : VRel φ d d') (hx : VRel φ x x') :
    ∃ w', (Builtin.copy_ #[t, ts] ty #[d', x']).run P w = .ok v w' ∧ VRel φ v v ∧ Good φ H' K w' ∧ Went K w w' := by
  unfold doCopy at h
  simp only [infoF_eq, undF_eq] at h
  split at h
  · rename_i e b o n c ax m cx hu
    split at h
    case h_2 => cases h
    rename_i ie hie
    obtain ⟨ax', cx', rfl, hsh⟩ := hx.shorten (Nat.min_le_left m n)
    have hd' : ∃ a' c', d' = .slice (some a') n c' ∧ (n ≠ 0 → ∃ L, φ b = some L ∧ a' = ⟨L.blk, L.off + o, none⟩) := by
      cases hd with
      | sl _ _ _ _ L h _ => exact ⟨_, _, rfl, fun _ => ⟨L, h, rfl⟩⟩
      | slO _ _ _ _ c' L h _ _ _ => exact ⟨_, _, rfl, fun _ => ⟨L, h, rfl⟩⟩
      | slE _ _ _ a' L h _ => exact ⟨_, _, rfl, fun h0 => absurd rfl h0⟩
    obtain ⟨a', c', rfl, hn⟩ := hd'
    split at h
    · rename_i h0
      cases h
      refine ⟨w, ?_, .int _ _, g, Went.refl _ _⟩
      cases ax' <;> simp [Builtin.copy_, run_underlying hu, Builtin.lenOf, h0, run_sizeOf hie, Builtin.firstCells, loadCells, loadCellsFrom, storeCells]
    · rename_i h0
      split at h
      · rename_i m0 news cs hsrc hb
        split at h
        case isFalse => cases h
        rename_i hc
        obtain ⟨h1, hfit, hne⟩ := hc
        cases h
        obtain ⟨a2, c2, us, he, hul, hur, hu0, hax, hcell⟩ := srcCells_ok g hsrc hsh
        cases he
        have hn0 : n ≠ 0 := fun e => h0 (by subst e; exact Nat.min_zero _)
        obtain ⟨L, hL, rfl⟩ := hn hn0
        obtain ⟨w', hst, hg, hw⟩ := g.write P hb hL o hfit h1 hur hne
        refine ⟨w', ?_, .int _ _, hg, hw⟩
        cases ax' with
        | none => exact absurd (hax rfl) h0
        | some a =>
          have hf := run_firstCells_some (P := P) w ie.size (Nat.min m n) a m cx' us hul (hcell a rfl)
          simp [Builtin.copy_, run_underlying hu, Builtin.lenOf, run_sizeOf hie, hf, hst]
      · cases h
  · rename_i e n c ax m cx hu
    split at h
    case h_2 => cases h
    rename_i ie hie
    split at h
    case isFalse => cases h
    rename_i h0
    subst h0
    cases h
    cases hd
    obtain ⟨ax', cx', rfl, hsh⟩ := hx.shorten (Nat.le_refl m)
    refine ⟨w, ?_, .int _ _, g, Went.refl _ _⟩
    cases ax' <;> simp [Builtin.copy_, run_underlying hu, Builtin.lenOf, run_sizeOf hie, Builtin.firstCells, loadCells, loadCellsFrom]
  · cases h
end Go.En
