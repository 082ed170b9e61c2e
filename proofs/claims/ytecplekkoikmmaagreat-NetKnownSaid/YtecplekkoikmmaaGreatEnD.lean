/- The engine, part D: addresses, slices, structs built and taken apart. -/
import Derived.Test.YtecplekkoikmmaaGreatEnC
noncomputable section
namespace Go.En
set_option linter.unusedVariables false
variable {P : Program} {φ : Ren} {H : Hp} {K : Nat → Prop} {w : World}

def doFieldAddr (P : Program) (s : TypeId) (f : Nat) : Value → Option Value
  | .pointer (some ⟨b, o, none⟩) =>
    match undF P s with
    | some (.struct fields) =>
      match fields[f]? with
      | some fl => match infoF P fl.type with
        | some i => if i.size = 0 then none else some (.pointer (some ⟨b, o + fl.offset, none⟩))
        | none => none
      | none => none
    | _ => none
  | _ => none
theorem doFieldAddr_ok {s : TypeId} {f : Nat} {a a' v : Value} (h : doFieldAddr P s f a = some v) (ha : VRel φ a a') (w : World) :
    ∃ v', (Instr.fieldAt s a' f).run P w = .ok v' w ∧ VRel φ v v' := by
  unfold doFieldAddr at h
  simp only [infoF_eq, undF_eq] at h
  split at h
  · rename_i b o
    cases ha with
    | ptr _ _ L hL =>
      split at h
      · rename_i fields hu
        split at h
        · rename_i fl hf
          split at h
          · rename_i i hi
            split at h
            · cases h
            · rename_i hz
              cases h
              refine ⟨_, ?_, .ptr b (o + fl.offset) L hL⟩
              simp [Instr.fieldAt, run_underlying hu, hf, Instr.sureAddr, fieldPlace, run_sizeOf hi, hz, Addr.add_none, Nat.add_assoc]
          · cases h
        · cases h
      · cases h
  · cases h

/-- An index within bounds. -/
def idx (i : Value) (n : Nat) : Option Nat :=
  match i with
  | .int _ i => if 0 ≤ i ∧ i < n then some i.toNat else none
  | _ => none

def doIndexAddr (P : Program) (t : TypeId) (x i : Value) : Option Value :=
  match undF P t, x with
  | some (.slice e), .slice (some ⟨b, o, none⟩) n _ =>
    match idx i n, infoF P e with
    | some j, some inf => some (.pointer (some ⟨b, o + j * inf.size, none⟩))
    | _, _ => none
  | some (.array n e), .pointer (some ⟨b, o, none⟩) =>
    match idx i n, infoF P e with
    | some j, some inf => some (.pointer (some ⟨b, o + j * inf.size, none⟩))
    | _, _ => none
  | _, _ => none

theorem idx_some {i : Value} {n j : Nat} (h : idx i n = some j) : ∃ k z, i = .int k z ∧ 0 ≤ z ∧ z < n ∧ j = z.toNat := by
  unfold idx at h
  split at h
  · rename_i k z
    split at h
    · rename_i hb; cases h; exact ⟨k, z, rfl, hb.1, hb.2, rfl⟩
    · cases h
  · cases h

theorem doIndexAddr_ok {t : TypeId} {x x' i i' v : Value} (h : doIndexAddr P t x i = some v) (hx : VRel φ x x') (hi : VRel φ i i') (w : World) :
    ∃ v', (Instr.indexAt t x' i').run P w = .ok v' w ∧ VRel φ v v' := by
  unfold doIndexAddr at h
  simp only [infoF_eq, undF_eq] at h
  split at h
  · rename_i e b o n c hu
    split at h
    · rename_i j inf hj hinf
      cases h
      obtain ⟨k, z, rfl, h0, h1, rfl⟩ := idx_some hj
      cases hi
      cases hx with
      | sl _ _ _ _ L hL hc =>
        refine ⟨_, ?_, .ptr b (o + z.toNat * inf.size) L hL⟩
        simp [Instr.indexAt, asIntOf, run_underlying hu, h0, h1, run_sizeOf hinf, Addr.add_none, Nat.add_assoc]
      | slO _ _ _ _ c' L hL hc hn hl =>
        refine ⟨_, ?_, .ptr b (o + z.toNat * inf.size) L hL⟩
        simp [Instr.indexAt, asIntOf, run_underlying hu, h0, h1, run_sizeOf hinf, Addr.add_none, Nat.add_assoc]
      | slE => omega
    · cases h
  · rename_i n e b o hu
    split at h
    · rename_i j inf hj hinf
      cases h
      obtain ⟨k, z, rfl, h0, h1, rfl⟩ := idx_some hj
      cases hi
      cases hx with
      | ptr _ _ L hL =>
        refine ⟨_, ?_, .ptr b (o + z.toNat * inf.size) L hL⟩
        simp [Instr.indexAt, asIntOf, run_underlying hu, Instr.sureAddr, h0, h1, run_sizeOf hinf, Addr.add_none, Nat.add_assoc]
    · cases h
  · cases h

/-- A bound of a slice expression. -/
def bnd (i : Value) (y : Nat) : Option Nat :=
  match i with
  | .int _ i => if 0 ≤ i ∧ i ≤ y then some i.toNat else none
  | _ => none
theorem bnd_run {i i' : Value} {y y' l : Nat} (h : bnd i y = some l) (hi : VRel φ i i') (hy : y ≤ y') (code : BoundsCode) (w : World) :
    (Instr.sliceBound i' y' code).run P w = .ok l w ∧ l ≤ y := by
  unfold bnd at h
  split at h
  · rename_i k z
    split at h
    · rename_i hb
      cases h
      cases hi
      have : z ≤ y' := by omega
      exact ⟨by simp [Instr.sliceBound, asIntOf, hb.1, this], by omega⟩
    · cases h
  · cases h

def lowB (v : Option Value) (h : Nat) : Option Nat :=
  match v with
  | none => some 0
  | some v => bnd v h
def highB (v : Option Value) (len cap : Nat) : Option Nat :=
  match v with
  | none => if len ≤ cap then some len else none
  | some v => bnd v cap
/-- The bounds of a slice expression: len, the capacity that is sure. -/
def bnds (len cap : Nat) (low high max : Option Value) : Option (Nat × Nat × Option Nat) :=
  match max with
  | some m => match high with
    | some h => (bnd m cap).bind fun m => (bnd h m).bind fun h => (lowB low h).bind fun l => some (l, h, some m)
    | none => none
  | none => (highB high len cap).bind fun h => (lowB low h).bind fun l => some (l, h, none)

def ORel (φ : Ren) : Option Value → Option Value → Prop
  | none, none => True
  | some v, some v' => VRel φ v v'
  | _, _ => False

theorem lowB_run {low low' : Option Value} {h l : Nat} (hl : lowB low h = some l) (h1 : ORel φ low low') (w : World) :
    ((low' = none ∧ l = 0) ∨ ∃ v, low' = some v ∧ ∀ code, (Instr.sliceBound v h code).run P w = .ok l w) ∧ l ≤ h := by
  cases low <;> cases low' <;> simp only [lowB, ORel] at hl h1
  · cases hl; exact ⟨.inl ⟨rfl, rfl⟩, Nat.zero_le _⟩
  · exact ⟨.inr ⟨_, rfl, fun code => (bnd_run hl h1 (Nat.le_refl _) code w).1⟩, (bnd_run (P := P) hl h1 (Nat.le_refl _) .index w).2⟩

theorem bnds_run {len cap cap' l h : Nat} {m : Option Nat} {low high max low' high' max' : Option Value} (hb : bnds len cap low high max = some (l, h, m))
    (h1 : ORel φ low low') (h2 : ORel φ high high') (h3 : ORel φ max max') (hc : cap ≤ cap') (b : Bool) (w : World) :
    (Instr.sliceBounds b len cap' low' high' max').run P w = .ok (l, h, m.getD cap') w ∧ l ≤ h ∧ h ≤ m.getD cap ∧ m.getD cap ≤ cap := by
  unfold bnds at hb
  cases max with
  | some m0 =>
    cases high with
    | none => cases hb
    | some h0 =>
      cases max' with
      | none => exact h3.elim
      | some m' =>
        cases high' with
        | none => exact h2.elim
        | some hh' =>
          simp only [Option.bind_eq_some_iff] at hb
          obtain ⟨m1, hm1, h1', hh1, l1, hl1, he⟩ := hb
          cases he
          have e1 := fun code => bnd_run (P := P) hm1 h3 hc code w
          have e2 := fun code => bnd_run (P := P) hh1 h2 (Nat.le_refl _) code w
          have e3 := lowB_run (P := P) hl1 h1 w
          refine ⟨?_, e3.2, (e2 .index).2, (e1 .index).2⟩
          rcases e3.1 with ⟨rfl, rfl⟩ | ⟨v, rfl, e4⟩
          · simp [Instr.sliceBounds, (e1 _).1, (e2 _).1]
          · simp [Instr.sliceBounds, (e1 _).1, (e2 _).1, e4]
  | none =>
    cases max' with
    | some _ => exact h3.elim
    | none =>
      simp only [Option.bind_eq_some_iff] at hb
      obtain ⟨hh, hhe, l1, hl1, he⟩ := hb
      cases he
      have e3 := lowB_run (P := P) hl1 h1 w
      cases high with
      | none =>
        cases high' with
        | some _ => exact h2.elim
        | none =>
          simp only [highB] at hhe
          split at hhe
          · cases hhe
            refine ⟨?_, e3.2, by simpa using ‹_›, Nat.le_refl _⟩
            rcases e3.1 with ⟨rfl, rfl⟩ | ⟨v, rfl, e4⟩
            · simp [Instr.sliceBounds]
            · simp [Instr.sliceBounds, e4]
          · cases hhe
      | some h0 =>
        cases high' with
        | none => exact h2.elim
        | some hh' =>
          have e2 := fun code => bnd_run (P := P) hhe h2 hc code w
          refine ⟨?_, e3.2, by simpa using (e2 .index).2, Nat.le_refl _⟩
          rcases e3.1 with ⟨rfl, rfl⟩ | ⟨v, rfl, e4⟩
          · simp [Instr.sliceBounds, (e2 _).1]
          · simp [Instr.sliceBounds, (e2 _).1, e4]

/-- A slice expression on a slice, or on an array behind a pointer. -/
def doSlice (P : Program) (t : TypeId) (x : Value) (low high max : Option Value) : Option Value :=
  match undF P t, x with
  | some (.slice e), .slice (some ⟨b, o, none⟩) n c =>
    match infoF P e with
    | none => none
    | some inf =>
      if c < openCap then
        match bnds n c low high max with
        | some (l, h, m) => some (.slice (some (if m.getD c = l then ⟨b, o, none⟩ else ⟨b, o + l * inf.size, none⟩)) (h - l) (m.getD c - l))
        | none => none
      else
        if c - openCap = inf.size ∧ n < openCap then
          match bnds n n low high max with
          | some (l, h, some m) => if m = l then (if 0 < n then some (.slice (some ⟨b, o, none⟩) 0 0) else some (.slice (some ⟨b, o + l * inf.size, none⟩) 0 c)) else some (.slice (some ⟨b, o + l * inf.size, none⟩) (h - l) (m - l))
          | some (l, h, none) => some (.slice (some ⟨b, o + l * inf.size, none⟩) (h - l) c)
          | none => none
        else none
  | some (.slice e), .slice none n c =>
    match infoF P e with
    | none => none
    | some inf => match bnds n c low high max with
      | some (l, h, m) => some (.slice none (h - l) (m.getD c - l))
      | none => none
  | some (.array n e), .pointer (some ⟨b, o, none⟩) =>
    match infoF P e with
    | none => none
    | some inf =>
      if n < openCap then
        match bnds n n low high max with
        | some (l, h, m) => some (.slice (some (if m.getD n = l then ⟨b, o, none⟩ else ⟨b, o + l * inf.size, none⟩)) (h - l) (m.getD n - l))
        | none => none
      else none
  | some .string, .string s => if (low.all av) && (high.all av) && (max.all av) then sc P (Instr.sliceAt t (.string s) low high max) else none
  | _, _ => none

theorem orel_av {x x' : Option Value} (h : x.all av = true) (hr : ORel φ x x') : x' = x := by
  cases x <;> cases x' <;> simp only [ORel] at hr
  · rfl
  · rw [av_eq (by simpa using h) hr]

theorem doSlice_ok {t : TypeId} {x x' v : Value} {low high max low' high' max' : Option Value} (h : doSlice P t x low high max = some v) (hx : VRel φ x x')
    (h1 : ORel φ low low') (h2 : ORel φ high high') (h3 : ORel φ max max') (w : World) : ∃ v', (Instr.sliceAt t x' low' high' max').run P w = .ok v' w ∧ VRel φ v v' := by
  unfold doSlice at h
  simp only [infoF_eq, undF_eq] at h
  split at h
  · rename_i e b o n c hu
    split at h
    · cases h
    · rename_i inf hi
      split at h
      · rename_i hc
        split at h
        · rename_i l h' m hb
          cases h
          cases hx with
          | sl _ _ _ _ L hL _ =>
            have e1 := bnds_run (P := P) hb h1 h2 h3 (Nat.le_refl _) true w
            refine ⟨.slice (some (if m.getD c = l then ⟨L.blk, L.off + o, none⟩ else ⟨L.blk, L.off + o + l * inf.size, none⟩)) (h' - l) (m.getD c - l), ?_, ?_⟩
            · simp only [Instr.sliceAt, Sem.run_bind, run_underlying hu, Result.andThen_ok, Instr.slice, e1.1, run_sizeOf hi, Sem.run_pure, Option.map_some, Addr.add_none]
              split <;> rfl
            · have hcap : m.getD c - l < openCap := by omega
              split
              · exact .sl b o _ _ L hL hcap
              · rw [Nat.add_assoc]; exact .sl b _ _ _ L hL hcap
          | slO _ _ _ _ c' L hL hc' => omega
          | slE => omega
        · cases h
      · rename_i hc
        split at h
        · rename_i hes'
          obtain ⟨hes, hno⟩ := hes'
          have key : ∀ (l h' : Nat) (m : Option Nat), bnds n n low high max = some (l, h', m) → ∃ a'' c', (Instr.sliceAt t x' low' high' max').run P w = .ok (.slice (some a'') (h' - l) (m.getD c' - l)) w ∧
              ((∃ L, φ b = some L ∧ n ≤ c' ∧ L.off + o + c' * (c - openCap) = L.lim ∧ a'' = if m.getD c' = l then ⟨L.blk, L.off + o, none⟩ else ⟨L.blk, L.off + o + l * inf.size, none⟩) ∨ (n = 0 ∧ c' = 0 ∧ ∃ L, φ b = some L)) ∧ l ≤ h' ∧ h' ≤ m.getD n ∧ m.getD n ≤ n := by
            intro l h' m hb
            cases hx with
            | sl _ _ _ _ L hL hc' => omega
            | slO _ _ _ _ c' L hL hc' hn hl =>
              have e1 := bnds_run (P := P) hb h1 h2 h3 hn true w
              refine ⟨if m.getD c' = l then ⟨L.blk, L.off + o, none⟩ else ⟨L.blk, L.off + o + l * inf.size, none⟩, c', ?_, .inl ⟨L, hL, hn, hl, rfl⟩, e1.2⟩
              simp only [Instr.sliceAt, Sem.run_bind, run_underlying hu, Result.andThen_ok, Instr.slice, e1.1, run_sizeOf hi, Sem.run_pure, Option.map_some, Addr.add_none]
              split <;> rfl
            | slE _ _ _ a' L hL _ =>
              have e1 := bnds_run (P := P) hb h1 h2 h3 (Nat.le_refl _) true w
              have em : m.getD 0 = l := by omega
              refine ⟨a', 0, ?_, .inr ⟨rfl, rfl, L, hL⟩, e1.2⟩
              simp only [Instr.sliceAt, Sem.run_bind, run_underlying hu, Result.andThen_ok, Instr.slice, e1.1, run_sizeOf hi, Sem.run_pure, Option.map_some, em, if_true]
          split at h
          · rename_i l h' m hb
            obtain ⟨a'', c', hrun, hcase, hlh, hhm, hmn⟩ := key _ _ _ hb
            simp only [Option.getD_some] at hrun hhm hmn hcase
            refine ⟨_, hrun, ?_⟩
            split at h
            · rename_i hml
              subst hml
              have e0 : h' - m = 0 := by omega
              rw [e0, Nat.sub_self]
              split at h
              · rename_i hpos
                cases h
                rcases hcase with ⟨L, hL, _, _, rfl⟩ | ⟨hn, _⟩
                · rw [if_pos rfl]
                  exact .sl b o 0 0 L hL (by decide)
                · omega
              · cases h
                rcases hcase with ⟨L, hL, _⟩ | ⟨_, _, L, hL⟩
                · exact .slE b _ c a'' L hL (by omega)
                · exact .slE b _ c a'' L hL (by omega)
            · rename_i hml
              cases h
              rcases hcase with ⟨L, hL, hn, hl, rfl⟩ | ⟨hn, _, L, hL⟩
              · rw [if_neg hml, Nat.add_assoc]
                exact .sl b _ _ _ L hL (by omega)
              · omega
          · rename_i l h' hb
            cases h
            obtain ⟨a'', c', hrun, hcase, hlh, hhm, hmn⟩ := key _ _ _ hb
            simp only [Option.getD_none] at hrun hhm hmn hcase
            refine ⟨_, hrun, ?_⟩
            rcases hcase with ⟨L, hL, hn, hl, rfl⟩ | ⟨hn, hc0, L, hL⟩
            · by_cases hcl : c' = l
              · subst hcl
                have e0 : h' - c' = 0 := by omega
                rw [e0, Nat.sub_self]
                exact .slE b _ c _ L hL (by omega)
              · rw [if_neg hcl, Nat.add_assoc]
                refine .slO b _ _ c _ L hL (by omega) (by omega) ?_
                rw [hes] at hl ⊢
                rw [Nat.sub_mul]
                have : l * inf.size ≤ c' * inf.size := Nat.mul_le_mul_right _ (by omega)
                omega
            · subst hc0
              have e0 : h' - l = 0 := by omega
              have e1 : 0 - l = 0 := by omega
              rw [e0, e1]
              exact .slE b _ c a'' L hL (by omega)
          · cases h
        · cases h
  · rename_i e n c hu
    split at h
    · cases h
    · rename_i inf hi
      split at h
      · rename_i l h' m hb
        cases h
        cases hx
        have e1 := bnds_run (P := P) hb h1 h2 h3 (Nat.le_refl _) true w
        refine ⟨.slice none (h' - l) (m.getD c - l), ?_, .slN _ _⟩
        simp only [Instr.sliceAt, Sem.run_bind, run_underlying hu, Result.andThen_ok, Instr.slice, e1.1, run_sizeOf hi, Sem.run_pure, Option.map_none]
        split <;> rfl
      · cases h
  · rename_i n e b o hu
    split at h
    · cases h
    · rename_i inf hi
      split at h
      · rename_i hc
        split at h
        · rename_i l h' m hb
          cases h
          cases hx with
          | ptr _ _ L hL =>
            have e1 := bnds_run (P := P) hb h1 h2 h3 (Nat.le_refl _) false w
            refine ⟨.slice (some (if m.getD n = l then ⟨L.blk, L.off + o, none⟩ else ⟨L.blk, L.off + o + l * inf.size, none⟩)) (h' - l) (m.getD n - l), ?_, ?_⟩
            · simp only [Instr.sliceAt, Sem.run_bind, run_underlying hu, Result.andThen_ok, Instr.sureAddr, e1.1, run_sizeOf hi, Sem.run_pure, Addr.add_none]
            · have hcap : m.getD n - l < openCap := by omega
              split
              · exact .sl b o _ _ L hL hcap
              · rw [Nat.add_assoc]; exact .sl b _ _ _ L hL hcap
        · cases h
      · cases h
  · rename_i s hu
    split at h
    · rename_i hav
      simp only [Bool.and_eq_true] at hav
      cases hx
      rw [orel_av hav.1.1 h1, orel_av hav.1.2 h2, orel_av hav.2 h3]
      exact ⟨v, sc_run h w⟩
    · cases h
  · cases h
end Go.En
