/- The engine, part FM: maps with keys of an integer type. -/
import Derived.Test.YtplhphmbkmpocaaGreatEnF
import Derived.MapKept
noncomputable section
namespace Go.En
set_option linter.unusedVariables false
variable {P : Program} {φ : Ren} {H : Hp} {K : Nat → Prop} {w : World}

def absE : List (Value × Value × Nat) → List MapEntry
  | [] => []
  | (k, v, b) :: r => ⟨k, v, b⟩ :: absE r
theorem findNow_none {d : TypeDesc} {k : Value} : ∀ {es : List (Value × Value × Nat)} {xs : List MapEntry} {i : Nat}, ERel φ es xs → Instr.findNow d k (absE es) i = some none → Instr.findNow d k xs i = some none
  | [], [], _, _, h => h
  | (k0, v, b) :: r, e :: s, i, hr, h => by
    simp only [absE, Instr.findNow] at h ⊢
    rw [hr.1]
    split at h <;> rename_i hx
    · cases h
    · exact findNow_none hr.2.2.2 h
    · cases h
  | [], _ :: _, _, h, _ => h.elim
  | (_, _, _) :: _, [], _, h, _ => h.elim
theorem findNow_some {d : TypeDesc} {k u : Value} {j : Nat} : ∀ {es : List (Value × Value × Nat)} {xs : List MapEntry} {i : Nat}, ERel φ es xs → Instr.findNow d k (absE es) i = some (some (j, u)) → ∃ u', Instr.findNow d k xs i = some (some (j, u')) ∧ VRel φ u u'
  | [], [], _, _, h => by simp [absE, Instr.findNow] at h
  | (k0, v, b) :: r, e :: s, i, hr, h => by
    simp only [absE, Instr.findNow] at h ⊢
    rw [hr.1]
    split at h <;> rename_i hx
    · cases h
      exact ⟨e.val, rfl, hr.2.1⟩
    · exact findNow_some hr.2.2.2 h
    · cases h
  | [], _ :: _, _, h, _ => h.elim
  | (_, _, _) :: _, [], _, h, _ => h.elim
theorem ERel.push {k v v' : Value} {b : Nat} (hv : VRel φ v v') : ∀ {es : List (Value × Value × Nat)} {xs : List MapEntry}, ERel φ es xs → ERel φ (es ++ [(k, v, b)]) (xs ++ [⟨k, v', b⟩])
  | [], [], _ => ⟨rfl, hv, rfl, trivial⟩
  | (_, _, _) :: _, _ :: _, h => ⟨h.1, h.2.1, h.2.2.1, ERel.push hv h.2.2.2⟩
  | [], _ :: _, h => h.elim
  | (_, _, _) :: _, [], h => h.elim
theorem ERel.put {k v v' : Value} {b : Nat} (hv : VRel φ v v') : ∀ {es : List (Value × Value × Nat)} {xs : List MapEntry} {i : Nat} {u : Value}, ERel φ es xs → es[i]? = some (k, u, b) → ERel φ (es.set i (k, v, b)) (xs.modify i fun e => { e with key := k, val := v' })
  | [], [], i, u, _, h => by simp at h
  | (k0, v0, b0) :: r, e :: s, 0, u, hr, h => by
    simp at h
    obtain ⟨rfl, rfl, rfl⟩ := h
    exact ⟨rfl, hv, hr.2.2.1, hr.2.2.2⟩
  | (k0, v0, b0) :: r, e :: s, i + 1, u, hr, h => by
    simp only [List.set_cons_succ, List.modify_succ_cons]
    exact ⟨hr.1, hr.2.1, hr.2.2.1, ERel.put hv hr.2.2.2 (by simpa using h)⟩
  | [], _ :: _, _, _, h, _ => h.elim
  | (_, _, _) :: _, [], _, _, h, _ => h.elim
theorem ERel.at {k u : Value} {b : Nat} : ∀ {es : List (Value × Value × Nat)} {xs : List MapEntry} {i : Nat}, ERel φ es xs → es[i]? = some (k, u, b) → ∃ e, xs[i]? = some e ∧ e.key = k
  | [], [], i, _, h => by simp at h
  | (k0, v0, b0) :: r, e :: s, 0, hr, h => by
    simp at h
    obtain ⟨rfl, rfl, rfl⟩ := h
    exact ⟨e, rfl, hr.1⟩
  | (k0, v0, b0) :: r, e :: s, i + 1, hr, h => by
    simpa using ERel.at hr.2.2.2 (i := i) (by simpa using h)
  | [], _ :: _, _, h, _ => h.elim
  | (_, _, _) :: _, [], _, h, _ => h.elim

/-- The entries of a map. -/
def mapOf (H : Hp) : Value → Option (List (Value × Value × Nat))
  | .map none => some []
  | .map (some r) => match H.get r with
    | some (.mp es _) => some es
    | _ => none
  | _ => none
def isIntD : TypeDesc → Bool
  | .int _ => true
  | _ => false
def isIntV : Value → Bool
  | .int _ _ => true
  | _ => false
def doLookup (P : Program) (H : Hp) (t : TypeId) (x j : Value) (c : Bool) : Option Value :=
  match P.underlying t with
  | some (.map kt et) => match P.underlying kt, P.info? et, mapOf H x with
    | some d, some inf, some es => match inf.zero with
      | some z => if isIntD d && isIntV j && av z then match Instr.findNow d j (absE es) 0 with
          | some (some (_, u)) => some (if c then .tuple #[u, .bool true] else u)
          | some none => some (if c then .tuple #[z, .bool false] else z)
          | none => none
        else none
      | none => none
    | _, _, _ => none
  | _ => none
theorem isKey_int {d : TypeDesc} {j : Value} (h1 : isIntD d = true) (h2 : isIntV j = true) (e : Bool) (n : Nat) {kt : TypeId} (hd : P.underlying kt = some d) : (Instr.checkKey e (n + 1) kt j).run P w = .ok () w := by
  unfold Instr.checkKey
  simp only [Sem.run_bind, run_underlying hd, Result.andThen]
  cases d <;> simp [isIntD] at h1
  cases j <;> simp [isIntV] at h2
  rfl
theorem int_rel {j j' : Value} (h : isIntV j = true) (hr : VRel φ j j') : j' = j := by
  cases hr <;> first | rfl | simp [isIntV] at h
theorem doLookup_ok (g : Good φ H K w) {t : TypeId} {x j x' j' v : Value} {c : Bool} (h : doLookup P H t x j c = some v) (hx : VRel φ x x') (hj : VRel φ j j') : ∃ v', (Instr.lookup t x' j' c).run P w = .ok v' w ∧ VRel φ v v' := by
  unfold doLookup at h
  split at h
  case h_2 => cases h
  rename_i kt et hu
  split at h
  case h_2 => cases h
  rename_i d inf es hd hi hes
  split at h
  case h_2 => cases h
  rename_i z hz
  split at h
  case isFalse => cases h
  rename_i hc
  simp only [Bool.and_eq_true] at hc
  have hj2 := int_rel hc.1.2 hj
  subst hj2
  have key : ∃ xs : Array MapEntry, ERel φ es xs.toList ∧ ((x' = .map none ∧ xs = #[]) ∨ ∃ b cl, x' = .map (some b) ∧ w.heap[b]? = some (.map xs cl)) := by
    unfold mapOf at hes
    split at hes
    · cases hes; cases hx; exact ⟨#[], trivial, .inl ⟨rfl, rfl⟩⟩
    · rename_i r
      split at hes
      case h_2 => cases hes
      rename_i es0 cl hg
      cases hes
      cases hx with
      | map _ L hL =>
        obtain ⟨xs, e1, e2⟩ := g.at hg hL
        exact ⟨xs, e2, .inr ⟨L.blk, cl, rfl, e1⟩⟩
    · cases hes
  obtain ⟨xs, hxs, hrun⟩ := key
  have hck : ∀ e, (Instr.checkKey e 10000 kt j').run P w = .ok () w := fun e => isKey_int hc.1.1 hc.1.2 e 9999 hd
  split at h
  · rename_i i u hf
    cases h
    obtain ⟨u', hf', hu'⟩ := findNow_some hxs hf
    have hk := MapKept.run_findKey (P := P) (w := w) hd hf'
    refine ⟨if c then .tuple #[u', .bool true] else u', ?_, ?_⟩
    · unfold Instr.lookup
      rcases hrun with ⟨rfl, rfl⟩ | ⟨b, cl, rfl, hb⟩
      · simp only [Sem.run_bind, run_underlying hu, Result.andThen, Sem.run_pure, hck, hk]
      · simp only [Sem.run_bind, run_underlying hu, Result.andThen, MapKept.run_getObj_map hb, Sem.run_pure, hck, hk]
    · cases c
      · exact hu'
      · exact .tuple' ⟨hu', .bool _, trivial⟩
  · rename_i hf
    cases h
    have hf' := findNow_none hxs hf
    have hk := MapKept.run_findKey (P := P) (w := w) hd hf'
    refine ⟨if c then .tuple #[z, .bool false] else z, ?_, ?_⟩
    · unfold Instr.lookup
      rcases hrun with ⟨rfl, rfl⟩ | ⟨b, cl, rfl, hb⟩
      · simp only [Sem.run_bind, run_underlying hu, Result.andThen, Sem.run_pure, hck, hk, run_zeroValue' hi hz]
      · simp only [Sem.run_bind, run_underlying hu, Result.andThen, MapKept.run_getObj_map hb, Sem.run_pure, hck, hk, run_zeroValue' hi hz]
    · cases c
      · exact av_rel hc.2
      · exact .tuple' ⟨av_rel hc.2, .bool _, trivial⟩
  · cases h

def eqInt : Value → Value → Bool
  | .int a b, .int c d => a == c && b == d
  | _, _ => false
theorem eqInt_eq {a b : Value} (h : eqInt a b = true) : a = b := by
  unfold eqInt at h
  split at h
  · simp only [Bool.and_eq_true, beq_iff_eq] at h; rw [h.1, h.2]
  · cases h
def doMapUpd (P : Program) (H : Hp) (t : TypeId) (m k v : Value) : Option Hp :=
  match P.underlying t, m with
  | some (.map kt _), .map (some r) => match P.underlying kt, H.get r with
    | some d, some (.mp es cl) => if isIntD d && isIntV k then match Instr.findNow d k (absE es) 0 with
        | some (some (i, _)) => match es[i]? with
          | some (k0, _, b) => if eqInt k0 k then some (H.set r (.mp (es.set i (k, v, b)) cl)) else none
          | none => none
        | some none => some (H.set r (.mp (es ++ [(k, v, cl)]) (cl + 1)))
        | none => none
      else none
    | _, _ => none
  | _, _ => none
theorem doMapUpd_ok (g : Good φ H K w) {t : TypeId} {m k v m' k' v' : Value} {H' : Hp} (h : doMapUpd P H t m k v = some H') (hm : VRel φ m m') (hk : VRel φ k k') (hv : VRel φ v v') :
    ∃ w', (Instr.mapUpdate t m' k' v').run P w = .ok () w' ∧ Good φ H' K w' ∧ Went K w w' := by
  unfold doMapUpd at h
  split at h
  case h_2 => cases h
  rename_i kt et r hu
  split at h
  case h_2 => cases h
  rename_i d es cl hd hg
  split at h
  case isFalse => cases h
  rename_i hc
  simp only [Bool.and_eq_true] at hc
  have hk2 := int_rel hc.2 hk
  subst hk2
  cases hm with
  | map _ L hL =>
    obtain ⟨xs, e1, e2⟩ := g.at hg hL
    have hlt : L.blk < w.heap.size := (Array.getElem?_eq_some_iff.1 e1).1
    have hck : (Instr.checkKey false 10000 kt k').run P w = .ok () w := isKey_int hc.1 hc.2 false 9999 hd
    have fin : ∀ (es2 : List (Value × Value × Nat)) (xs2 : Array MapEntry) (cl2 : Nat), ERel φ es2 xs2.toList → Good φ (H.set r (.mp es2 cl2)) K { w with heap := w.heap.setIfInBounds L.blk (.map xs2 cl2) } ∧ Went K w { w with heap := w.heap.setIfInBounds L.blk (.map xs2 cl2) } := fun es2 xs2 cl2 hr => by
      have hget : ∀ c, c ≠ L.blk → (w.heap.setIfInBounds L.blk (.map xs2 cl2))[c]? = w.heap[c]? := fun c hc => by
        rw [Array.getElem?_setIfInBounds, if_neg (fun e => hc e.symm)]
      refine ⟨g.upd hg rfl hL hget (by show (w.heap.setIfInBounds _ _).size = _; simp) ⟨xs2, ?_, hr⟩, rfl, rfl, rfl, ?_, fun c hcK => hget c fun e => g.prot r _ L hg rfl hL (e ▸ hcK)⟩
      · show (w.heap.setIfInBounds L.blk (.map xs2 cl2))[L.blk]? = _
        rw [Array.getElem?_setIfInBounds]; simp [hlt]
      · show w.heap.size ≤ (w.heap.setIfInBounds _ _).size; simp
    split at h
    · rename_i i u hf
      split at h
      case h_2 => cases h
      rename_i k0 u0 b hi
      split at h
      case isFalse => cases h
      rename_i heq
      have heq2 := eqInt_eq heq
      subst heq2
      cases h
      obtain ⟨u', hf', hu'⟩ := findNow_some e2 hf
      have hfk := MapKept.run_findKey (P := P) (w := w) hd hf'
      obtain ⟨e, he1, he2⟩ := ERel.at e2 hi
      have hkey : (((xs[i]?).map (·.key)).getD k0) = k0 := by
        have : xs[i]? = some e := by simpa using he1
        rw [this]; simpa using he2
      have hsame : Instr.sameBits 10000 k0 k0 = true := by
        cases k0 <;> simp [isIntV] at hc
        simp [Instr.sameBits]
      have hst : (Instr.keyThatStays k0 k0).run P w = .ok k0 w := by
        unfold Instr.keyThatStays
        rw [hsame]; rfl
      obtain ⟨f1, f2⟩ := fin (es.set i (k0, v, b)) (xs.modify i fun e => { e with key := k0, val := v' }) cl (by rw [Array.toList_modify]; exact ERel.put hv e2 hi)
      refine ⟨_, ?_, f1, f2⟩
      unfold Instr.mapUpdate
      simp only [Sem.run_bind, run_underlying hu, Result.andThen, MapKept.run_getObj_map e1, hck, hfk, hkey, hst]
      exact MapKept.run_setObj_map _ e1
    · rename_i hf
      cases h
      have hf' := findNow_none e2 hf
      have hfk := MapKept.run_findKey (P := P) (w := w) hd hf'
      obtain ⟨f1, f2⟩ := fin (es ++ [(k', v, cl)]) (xs.push ⟨k', v', cl⟩) (cl + 1) (by rw [Array.toList_push]; exact ERel.push hv e2)
      refine ⟨_, ?_, f1, f2⟩
      unfold Instr.mapUpdate
      simp only [Sem.run_bind, run_underlying hu, Result.andThen, MapKept.run_getObj_map e1, hck, hfk]
      exact MapKept.run_setObj_map _ e1
    · cases h
/-- A new map. -/
theorem newMap_ok (g : Good φ H K w) {n : Nat} (hn : φ n = none) :
    ∃ φ', (newObj (.map #[] 0)).run P w = .ok w.heap.size (w.alloc (.map #[] 0)) ∧ Ext φ φ' n (n + 1) ∧ Good φ' ((n, .mp [] 0) :: H) K (w.alloc (.map #[] 0)) ∧ VRel φ' (.map (some n)) (.map (some w.heap.size)) := by
  have hlast : (w.alloc (.map #[] 0)).heap[w.heap.size]? = some (.map #[] 0) := by
    show (w.heap.push _)[w.heap.size]? = _
    simp
  have hg := g.new hn (.map #[] 0) (L := ⟨w.heap.size, 0, 0⟩) rfl (k := .mp [] 0) ⟨#[], hlast, trivial⟩
  refine ⟨_, rfl, Ext.put hn _, hg, ?_⟩
  exact .map n ⟨w.heap.size, 0, 0⟩ (Ren.put_same _ _ _)
end Go.En
