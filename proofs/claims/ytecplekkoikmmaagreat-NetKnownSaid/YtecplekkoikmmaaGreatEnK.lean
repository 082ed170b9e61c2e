/- The engine, part K: regions that draw their order. -/
import Derived.Test.YtecplekkoikmmaaGreatEnJ
import Derived.Orders
noncomputable section
namespace Go.En
set_option linter.unusedVariables false
variable {P : Program} {φ : Ren} {H : Hp} {K : Nat → Prop} {w : World}

structure Ev where
  call : FuncId → List Value → Hp → Nat → Option (Value × Hp × Nat)
  code : Option Nat → Code → List Value → List Nat → Hp → Nat → Option Res
  loop : Option Nat → Code → List Value → List Nat → Hp → Nat → Option Res
  scp : Code → Code → List Value → List Nat → Hp → Nat → Option Res

structure Ev.Ok (P : Program) (E : Ev) : Prop where
  call : ∀ {f args H nx v H' nx'}, E.call f args H nx = some (v, H', nx') → CallOk P f args H nx v H' nx'
  named : ∀ {f args H nx v H' nx'}, E.call f args H nx = some (v, H', nx') → ∃ fn, P.funcs[f]? = some fn ∧ fn.body.isSome = true
  code : ∀ {r c tm ds H nx R}, E.code r c tm ds H nx = some R → CodeOk P r c tm ds H nx R
  loop : ∀ {r c tm ds H nx R}, E.loop r c tm ds H nx = some R → LoopOk P r c tm ds H nx R
  scp : ∀ {c x tm ds H nx R}, E.scp c x tm ds H nx = some R → ScpOk P c x tm ds H nx R

/-! ### A part of a heap handed to an operation -/

def Hp.only (p : Nat → Bool) : Hp → Hp
  | [] => []
  | (b, k) :: r => if p b then (b, k) :: Hp.only p r else Hp.only p r
theorem Hp.get_only (p : Nat → Bool) (n : Nat) : ∀ H : Hp, (Hp.only p H).get n = if p n then H.get n else none
  | [] => by simp [Hp.only, Hp.get_nil]
  | (b, k) :: r => by
    have ih := Hp.get_only p n r
    by_cases hb : b = n
    · subst hb
      by_cases hp : p b = true
      · simp [Hp.only, Hp.get_cons, hp]
      · simp only [Bool.not_eq_true] at hp; simp [Hp.only, hp, ih]
    · by_cases hp : p b = true
      · simp [Hp.only, Hp.get_cons, hp, hb, ih]
      · simp only [Bool.not_eq_true] at hp; simp [Hp.only, Hp.get_cons, hp, hb, ih]
theorem Hp.get_append (n : Nat) : ∀ H G : Hp, Hp.get (H ++ G) n = (match H.get n with | some k => some k | none => G.get n)
  | [], G => by simp [Hp.get_nil]
  | (b, k) :: r, G => by
    have ih := Hp.get_append n r G
    by_cases hb : b = n
    · subst hb; simp [Hp.get_cons]
    · simp [Hp.get_cons, hb, ih]

/-- How an operation sees a block: a name of wr as it is; a masked one not at all; cells of others to read alone. -/
def seen1 (wr mask : Nat → Bool) (b : Nat) (k : Blk) : Blk :=
  if wr b then k else if mask b then .hid else match k with
    | .cells cs _ => .cells cs true
    | _ => .hid
def mkView (wr mask : Nat → Bool) : Hp → Hp
  | [] => []
  | (b, k) :: r => (b, seen1 wr mask b k) :: mkView wr mask r
theorem mkView_get (wr mask : Nat → Bool) (n : Nat) : ∀ H : Hp, (mkView wr mask H).get n = (H.get n).map (seen1 wr mask n)
  | [] => by simp [mkView, Hp.get_nil]
  | (b, k) :: r => by
    have ih := mkView_get wr mask n r
    by_cases hb : b = n
    · subst hb; simp [mkView, Hp.get_cons]
    · simp [mkView, Hp.get_cons, hb, ih]

theorem BRel.hid_of {φ : Ren} {w : World} {L : Loc} {k : Blk} (h : BRel φ w L k) : BRel φ w L .hid := by
  have := h.lt
  exact ⟨w.heap[L.blk], by simp [this]⟩

/-- The heap behind an operation that was handed a view of it. -/
def merge (touch : Nat → Bool) (H' G : Hp) : Hp := Hp.only touch H' ++ Hp.only (fun b => !touch b) G
theorem merge_get (touch : Nat → Bool) (H' G : Hp) (b : Nat) : (merge touch H' G).get b = if touch b then H'.get b else G.get b := by
  unfold merge
  rw [Hp.get_append, Hp.get_only, Hp.get_only]
  cases h : touch b
  · simp
  · simp; cases H'.get b <;> rfl

def allRw : Hp → Bool
  | [] => true
  | (_, k) :: r => k.rw && allRw r
theorem allRw_get {b : Nat} {k : Blk} : ∀ {H : Hp}, allRw H = true → H.get b = some k → k.rw = true
  | [], _, h => by simp [Hp.get_nil] at h
  | (c, x) :: r, ha, h => by
    simp only [allRw, Bool.and_eq_true] at ha
    by_cases hb : c = b
    · subst hb; simp [Hp.get_cons] at h; subst h; exact ha.1
    · simp [Hp.get_cons, hb] at h; exact allRw_get ha.2 h

/-- The names that an operation may turn, and those that it may take new. -/
def touchOf (wr : Nat → Bool) (lo hi : Nat) (b : Nat) : Bool := wr b || (decide (lo ≤ b) && decide (b < hi))

/-- An operation run on a view of the heap G: what it does to G. -/
theorem view_ok {r : Option Nat} {o : Oper} {tm : List Value} {V H' G : Hp} {wr mask : Nat → Bool} {lo hi : Nat} {v : Value} (h : OpOk P r o tm V lo v H' hi)
    (hV : ∀ b k, V.get b = some k → ∃ k0, G.get b = some k0 ∧ k = seen1 wr mask b k0) (hrw : allRw (Hp.only (touchOf wr lo hi) H') = true)
    (φ : Ren) (w : World) (K : Nat → Prop) (a : Act) (rc : Option Nat) (next : Act → World → Prop) (Q : Exit → Act → World → Prop) (g : Good φ G K w) (hf : Fresh φ lo hi) (ht : TRel φ tm a.tmps) (hr : RRel φ r rc)
    (hk : ∀ v' φ' w', VRel φ' v v' → Ext φ φ' lo hi → Good φ' (merge (touchOf wr lo hi) H' G) K w' → Went K w w' → next (a.put o.dst v') w') : o.wpIn (fw rc) 0 P a w next Q := by
  let K2 : Nat → Prop := fun c => K c ∨ ∃ b k L, G.get b = some k ∧ wr b = false ∧ φ b = some L ∧ L.blk = c
  have hV' : ∀ b k, V.get b = some k → k.rw = true → wr b = true := by
    intro b k hb hk
    obtain ⟨k0, h0, rfl⟩ := hV b k hb
    cases hw : wr b with
    | true => rfl
    | false =>
      simp only [seen1, hw, Bool.false_eq_true, if_false] at hk
      split at hk
      · simp [Blk.rw] at hk
      · split at hk <;> simp [Blk.rw] at hk
  have hsame : ∀ b k, V.get b = some k → wr b = true → G.get b = some k := by
    intro b k hb hw
    obtain ⟨k0, h0, rfl⟩ := hV b k hb
    simp only [seen1, hw, if_true]; exact h0
  have g2 : Good φ V K2 w := by
    refine ⟨fun b k hb => ?_, fun b c k k' L L' hb hc hne hkr hL hL' => ?_, fun b k L hb hkr hL hK2 => ?_, fun c hc => ?_⟩
    · obtain ⟨k0, h0, rfl⟩ := hV b k hb
      obtain ⟨L, hL, hbr⟩ := g.rel b k0 h0
      refine ⟨L, hL, ?_⟩
      unfold seen1
      split
      · exact hbr
      · split
        · exact hbr.hid_of
        · split
          · obtain ⟨arr, el, fr, h1, h2, h3⟩ := hbr
            exact ⟨arr, el, fr, h1, h2, fun h => by cases h⟩
          · exact hbr.hid_of
    · have hw := hV' b k hb hkr
      obtain ⟨k1, h1, _⟩ := hV c k' hc
      exact g.sep b c k k1 L L' (hsame b k hb hw) h1 hne hkr hL hL'
    · have hw := hV' b k hb hkr
      have hG := hsame b k hb hw
      rcases hK2 with hK | ⟨c, k', L', hc, hwc, hLc, he⟩
      · exact g.prot b k L hG hkr hL hK
      · have hne : b ≠ c := fun e => by subst e; rw [hw] at hwc; cases hwc
        exact g.sep b c k k' L L' hG hc hne hkr hL hLc he.symm
    · rcases hc with hK | ⟨b, k, L, hb, _, hL, he⟩
      · exact g.kin c hK
      · have := (g.at hb hL).lt; omega
  refine h.2 φ w K2 a rc next Q g2 hf ht hr fun v' φ' w' x1 x2 x3 x4 => ?_
  refine hk v' φ' w' x1 x2 ?_ ⟨x4.os, x4.tape, x4.output, x4.size, fun c hc => x4.kept c (.inl hc)⟩
  have htr : ∀ b k, (merge (touchOf wr lo hi) H' G).get b = some k → touchOf wr lo hi b = true → H'.get b = some k ∧ k.rw = true := by
    intro b k hb ht
    rw [merge_get, ht] at hb
    refine ⟨hb, allRw_get (b := b) hrw ?_⟩
    rw [Hp.get_only, ht]; exact hb
  have hun : ∀ b k, (merge (touchOf wr lo hi) H' G).get b = some k → touchOf wr lo hi b = false → G.get b = some k ∧ wr b = false := by
    intro b k hb ht
    rw [merge_get, ht] at hb
    refine ⟨by simpa using hb, ?_⟩
    simp only [touchOf, Bool.or_eq_false_iff] at ht
    exact ht.1
  refine ⟨fun b k hb => ?_, fun b c k k' L L' hb hc hne hkr hL hL' => ?_, fun b k L hb hkr hL hK => ?_, fun c hc => Nat.lt_of_lt_of_le (g.kin c hc) x4.size⟩
  · cases ht : touchOf wr lo hi b with
    | true => exact x3.rel b k (htr b k hb ht).1
    | false =>
      obtain ⟨hG, hw⟩ := hun b k hb ht
      obtain ⟨L, hL, hbr⟩ := g.rel b k hG
      exact ⟨L, x2.1 _ _ hL, (hbr.congr (x4.kept L.blk (.inr ⟨b, k, L, hG, hw, hL, rfl⟩))).mono x2.1⟩
  · cases htb : touchOf wr lo hi b with
    | true =>
      obtain ⟨hb', hbr⟩ := htr b k hb htb
      cases htc : touchOf wr lo hi c with
      | true => exact x3.sep b c k k' L L' hb' (htr c k' hc htc).1 hne hbr hL hL'
      | false =>
        obtain ⟨hG, hw⟩ := hun c k' hc htc
        obtain ⟨M, hM, _⟩ := g.rel c k' hG
        have := x2.1 _ _ hM
        rw [hL'] at this; cases this
        exact fun e => x3.prot b k L hb' hbr hL (.inr ⟨c, k', L', hG, hw, hM, e.symm⟩)
    | false =>
      obtain ⟨hG, hw⟩ := hun b k hb htb
      obtain ⟨M, hM, _⟩ := g.rel b k hG
      have hM' := x2.1 _ _ hM
      rw [hL] at hM'; cases hM'
      cases htc : touchOf wr lo hi c with
      | true =>
        obtain ⟨hc', hcr⟩ := htr c k' hc htc
        exact fun e => x3.prot c k' L' hc' hcr hL' (.inr ⟨b, k, L, hG, hw, hM, e⟩)
      | false =>
        obtain ⟨hGc, hwc⟩ := hun c k' hc htc
        obtain ⟨M2, hM2, _⟩ := g.rel c k' hGc
        have := x2.1 _ _ hM2
        rw [hL'] at this; cases this
        exact g.sep b c k k' L L' hG hGc hne hkr hM hM2
  · cases htb : touchOf wr lo hi b with
    | true =>
      obtain ⟨hb', hbr⟩ := htr b k hb htb
      exact x3.prot b k L hb' hbr hL (.inl hK)
    | false =>
      obtain ⟨hG, hw⟩ := hun b k hb htb
      obtain ⟨M, hM, _⟩ := g.rel b k hG
      have hM' := x2.1 _ _ hM
      rw [hL] at hM'; cases hM'
      exact g.prot b k L hG hkr hM hK
end Go.En
