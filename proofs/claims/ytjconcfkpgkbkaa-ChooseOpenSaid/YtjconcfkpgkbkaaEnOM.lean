/- The engine, part OM: loops whose rounds give new blocks: the names from lo to nx are given anew in each round. -/
import Derived.Test.YtjconcfkpgkbkaaEnOL
namespace Go.En
set_option linter.unusedVariables false
variable {P : Program} {φ : Ren} {H : Hp} {K : Nat → Prop} {w : World}

def PostL (lo : Nat) (φ : Ren) (K : Nat → Prop) (w : World) (R : Res) (e : Exit) (a' : Act) (w' : World) : Prop :=
  e = R.e ∧ ∃ φ', (∀ b, b < lo ∨ R.nx ≤ b → φ' b = φ b) ∧ Good φ' R.H K w' ∧ TRel φ' R.tm a'.tmps ∧ DRel φ' R.ds a'.defers ∧ Went K w w'
def LoopL (P : Program) (lo : Nat) (r : Option Nat) (c : Code) (tm : List Value) (ds : List Nat) (H : Hp) (nx : Nat) (R : Res) : Prop :=
  lo ≤ nx ∧ nx ≤ R.nx ∧ ∃ m, ∀ φ w K a rc, Good φ H K w → Fresh φ nx R.nx → TRel φ tm a.tmps → DRel φ ds a.defers → RRel φ r rc → Code.roundsIn (fw rc) 0 P c (PostL lo φ K w R) m a w
theorem loopL_out {lo : Nat} {r : Option Nat} {c : Code} {tm : List Value} {ds : List Nat} {nx : Nat} {R : Res} (h1 : CodeOk P r c tm ds H nx R) (he : R.e ≠ .normal) (hlo : lo ≤ nx) {M : Nat} (hM : R.nx ≤ M) : LoopL P lo r c tm ds H nx { R with nx := M } := by
  refine ⟨hlo, Nat.le_trans h1.1 hM, 1, fun φ w K a rc g hf ht hd hr => ?_⟩
  rw [roundsIn_succ]
  refine wpIn_mono (h1.2 φ w K a rc g (hf.left hM) ht hd hr) ?_
  intro e a1 w1 hp
  obtain ⟨rfl, φ1, k1, k2, k3, k4, k5⟩ := hp
  have hq : PostL lo φ K w { R with nx := M } R.e a1 w1 := ⟨rfl, φ1, fun b hb => k1.2 b (by rcases hb with hb | hb; exact .inl (by omega); exact .inr (Nat.le_trans hM hb)), k2, k3, k4, k5⟩
  cases hE : R.e with
  | normal => exact absurd hE he
  | _ => rw [hE] at hq; exact hq
/-- In a frame where the names from lo on are not given yet. -/
theorem loopOk_of_L {lo : Nat} {r : Option Nat} {c : Code} {tm : List Value} {ds : List Nat} {nx : Nat} {R : Res} (h : LoopL P lo r c tm ds H nx R) : LoopOk P r c tm ds H lo R := by
  obtain ⟨h1, h2, m, h⟩ := h
  refine ⟨Nat.le_trans h1 h2, m, fun φ w K a rc g hf ht hd hr => ?_⟩
  have := h φ w K a rc g (fun b h3 h4 => hf b (by omega) h4) ht hd hr
  have mono : ∀ (m : Nat) (a : Act) (w2 : World), Code.roundsIn (fw rc) 0 P c (PostL lo φ K w R) m a w2 → Code.roundsIn (fw rc) 0 P c (Post φ K w lo R) m a w2 := by
    intro m
    induction m with
    | zero => intro a w2 h; exact h
    | succ m ih =>
      intro a w2 h
      rw [roundsIn_succ] at h ⊢
      refine wpIn_mono h ?_
      intro e a2 w3 hq
      have key : ∀ e, PostL lo φ K w R e a2 w3 → Post φ K w lo R e a2 w3 := by
        rintro e ⟨rfl, φ', k1, k2, k3, k4, k5⟩
        refine ⟨rfl, φ', ⟨fun b L hb => ?_, k1⟩, k2, k3, k4, k5⟩
        by_cases hlt : b < lo ∨ R.nx ≤ b
        · rw [k1 b hlt]; exact hb
        · have := hf b (by omega) (by omega)
          rw [hb] at this; cases this
      cases e <;> first | exact ih _ _ hq | exact key _ hq
  exact mono m a w this

def renBlk (σ : Nat → Nat) : Blk → Blk
  | .cells cs ro => .cells (cs.map (renV σ 5)) ro
  | k => k
def renHp (σ : Nat → Nat) : Hp → Hp
  | [] => []
  | (b, k) :: r => (σ b, renBlk σ k) :: renHp σ r
/-- Which blocks may be renamed: cells; records of loops and the like only where nothing is renamed. -/
def fixB (lo : Nat) : Hp → Bool
  | [] => true
  | (_, .cells _ _) :: r => fixB lo r
  | (b, .loop l) :: r => decide (b < lo) && En.smallL (small lo 5) l.tmps.toList && decide (l.defers < lo) && fixB lo r
  | (b, .defd) :: r => decide (b < lo) && fixB lo r
  | (_, .hid) :: _ => false
def hasN (b : Nat) (H : Hp) : Bool := H.any fun x => x.1 == b
theorem renV_junk {σ : Nat → Nat} {n k : Nat} {v : Value} (hs : small k n v = true) : renV σ n v ≠ junk := by
  intro h
  cases v with
  | pointer a =>
    cases a with
    | none => cases n <;> simp [renV, junk] at h
    | some a => obtain ⟨b, o, x⟩ := a; cases x <;> cases n <;> simp [renV, junk] at h
  | slice a m c =>
    cases a with
    | none => cases n <;> simp [renV, junk] at h
    | some a => obtain ⟨b, o, x⟩ := a; cases x <;> cases n <;> simp [renV, junk] at h
  | map r => cases r <;> cases n <;> simp [renV, junk] at h
  | func f a b => cases f <;> cases n <;> simp [renV, junk] at h
  | iface t v => cases n <;> simp [renV, junk] at h
  | agg a => cases n <;> simp [renV, junk] at h
  | tuple a => cases n <;> simp [renV, junk] at h
  | complex a b c => cases n <;> simp [small] at hs
  | _ => cases n <;> simp [renV, junk] at h
theorem hasN_ren {σ : Nat → Nat} {b : Nat} {k : Blk} : ∀ {H : Hp}, H.get b = some k → hasN (σ b) (renHp σ H) = true
  | [], h => by cases h
  | (c, x) :: r, h => by
    by_cases hc : c = b
    · subst hc; simp [renHp, hasN]
    · simp [Hp.get, hc] at h
      have := hasN_ren (σ := σ) h
      unfold hasN at this ⊢
      simp only [renHp, List.any_cons, this, Bool.or_true]
theorem renHp_get {σ : Nat → Nat} {b : Nat} {k : Blk} : ∀ {H : Hp}, nodupN (renHp σ H) = true → H.get b = some k → (renHp σ H).get (σ b) = some (renBlk σ k)
  | [], _, h => by cases h
  | (c, x) :: r, hn, h => by
    simp only [renHp, nodupN, Bool.and_eq_true, Bool.not_eq_true'] at hn
    by_cases hc : c = b
    · subst hc; simp [Hp.get] at h; subst h; simp [renHp, Hp.get]
    · simp [Hp.get, hc] at h
      have h2 := hasN_ren (σ := σ) h
      have hne : σ c ≠ σ b := by
        intro e
        unfold hasN at h2
        rw [← e, hn.1] at h2; cases h2
      simp [renHp, Hp.get, hne, renHp_get hn.2 h]
theorem renHp_inj {σ : Nat → Nat} {b c : Nat} {k k' : Blk} : ∀ {H : Hp}, nodupN (renHp σ H) = true → H.get b = some k → H.get c = some k' → b ≠ c → σ b ≠ σ c
  | [], _, h, _, _ => by cases h
  | (d, x) :: r, hn, h, h', hne => by
    simp only [renHp, nodupN, Bool.and_eq_true, Bool.not_eq_true'] at hn
    by_cases hd : d = b
    · subst hd
      simp [Hp.get, hne] at h'
      intro e
      have := hasN_ren (σ := σ) h'
      unfold hasN at this
      rw [← e, hn.1] at this; cases this
    · by_cases hd2 : d = c
      · subst hd2
        simp [Hp.get, hd] at h
        intro e
        have := hasN_ren (σ := σ) h
        unfold hasN at this
        rw [e, hn.1] at this; cases this
      · simp [Hp.get, hd] at h
        simp [Hp.get, hd2] at h'
        exact renHp_inj hn.2 h h' hne
theorem fixB_get {lo b : Nat} {k : Blk} : ∀ {H : Hp}, fixB lo H = true → H.get b = some k → match k with
    | .cells _ _ => True
    | .loop l => b < lo ∧ smallL (small lo 5) l.tmps.toList = true ∧ l.defers < lo
    | .defd => b < lo
    | .hid => False
  | [], _, h => by cases h
  | (c, x) :: r, hf, h => by
    by_cases hc : c = b
    · subst hc
      simp [Hp.get] at h
      subst h
      cases x with
      | cells => trivial
      | loop l => simp only [fixB, Bool.and_eq_true, decide_eq_true_eq] at hf; exact ⟨hf.1.1.1, hf.1.1.2, hf.1.2⟩
      | defd => simp only [fixB, Bool.and_eq_true, decide_eq_true_eq] at hf; exact hf.1
      | hid => simp [fixB] at hf
    · simp [Hp.get, hc] at h
      have hf2 : fixB lo r = true := by
        cases x <;> simp only [fixB, Bool.and_eq_true, Bool.false_eq_true] at hf <;> first | exact hf | exact hf.2 | exact hf.elim
      exact fixB_get hf2 h
theorem hpBelow_get {n b : Nat} {k : Blk} : ∀ {H : Hp}, hpBelow n H = true → H.get b = some k → b < n ∧ tidyB n k = true
  | [], _, h => by cases h
  | (c, x) :: r, hb, h => by
    simp only [hpBelow, Bool.and_eq_true, decide_eq_true_eq] at hb
    by_cases hc : c = b
    · subst hc; simp [Hp.get] at h; subst h; exact hb.1
    · simp [Hp.get, hc] at h; exact hpBelow_get hb.2 h
/-- A round that goes on, its new names given the old ones' names. -/
theorem loopL_step {lo : Nat} {r : Option Nat} {c : Code} {tm tm' : List Value} {ds : List Nat} {H' : Hp} {nx n1 : Nat} {R : Res} (σ : Nat → Nat) (h1 : CodeOk P r c tm ds H nx ⟨.normal, tm'.map (renV σ 5), ds, renHp σ H', n1⟩) (h2 : LoopL P lo r c tm' ds H' nx R) (hn1 : n1 ≤ R.nx)
    (hσ : ∀ b, b < lo → σ b = b) (hc : (tmBelow nx tm' && nodupN (renHp σ H') && fixB lo H' && dsBelow lo ds && rBelow lo r) = true) (hb : hpBelow nx H' = true) : LoopL P lo r c tm ds H nx R := by
  obtain ⟨l1, l2, m, h2⟩ := h2
  simp only [Bool.and_eq_true] at hc
  obtain ⟨⟨⟨⟨c1, c2⟩, c3⟩, c4⟩, c5⟩ := hc
  refine ⟨l1, l2, m + 1, fun φ w K a rc g hf ht hd hr => ?_⟩
  rw [roundsIn_succ]
  refine wpIn_mono (h1.2 φ w K a rc g (hf.left hn1) ht hd hr) ?_
  rintro e a1 w1 ⟨rfl, φ1, k1, k2, k3, k4, k5⟩
  let φ2 : Ren := fun b => if b < nx then φ1 (σ b) else if b < R.nx then none else φ b
  have e2 : ∀ b L, b < nx → φ1 (σ b) = some L → φ2 b = some L := fun b L hb hL => by simp [φ2, hb, hL]
  have e3 : ∀ b, b < lo → φ2 b = φ b := fun b hb => by
    have : b < nx := by omega
    simp only [φ2, this, if_true, hσ b hb]
    exact k1.2 b (.inl this)
  have e4 : ∀ b, b < lo → φ1 b = φ2 b := fun b hb => by rw [e3 b hb]; exact k1.2 b (.inl (by omega))
  have g2 : Good φ2 H' K w1 := by
    refine ⟨fun b k hbk => ?_, fun b d k k' L L' hbk hdk hne hkr hL hL' => ?_, fun b k L hbk hkr hL => ?_, k2.kin⟩
    · obtain ⟨hlt, htd⟩ := hpBelow_get hb hbk
      obtain ⟨L, hL, hB⟩ := k2.rel _ _ (renHp_get c2 hbk)
      refine ⟨L, e2 b L hlt hL, ?_⟩
      have hfx := fixB_get c3 hbk
      cases k with
      | cells cs ro =>
        obtain ⟨arr, el, fr, f1, f2, f3⟩ := hB
        refine ⟨arr, el, fr, f1, fun j v hv => ?_, f3⟩
        obtain ⟨v', q1, q2⟩ := f2 j (renV σ 5 v) (by simp [hv])
        exact ⟨v', q1, ren_bwd e2 5 v v' (smallL_get htd hv) q2⟩
      | loop l =>
        obtain ⟨x1, x2, x3⟩ := hfx
        obtain ⟨l', f1, f2, f3, f4, f5, f6, f7, D, f8, f9⟩ := hB
        refine ⟨l', f1, f2, f3, ⟨f4.1, fun i v hv => ?_⟩, f5, f6, f7, D, by rw [← e4 _ x3]; exact f8, f9⟩
        rcases f4.2 i v hv with h | ⟨v', q1, q2⟩
        · exact .inl h
        · exact .inr ⟨v', q1, small_rel e4 5 v v' (smallL_get x2 hv) q2⟩
      | defd => exact hB
      | hid => exact hfx.elim
    · obtain ⟨hlt, _⟩ := hpBelow_get hb hbk
      obtain ⟨hlt', _⟩ := hpBelow_get hb hdk
      simp only [φ2, hlt, hlt', if_true] at hL hL'
      exact k2.sep _ _ _ _ L L' (renHp_get c2 hbk) (renHp_get c2 hdk) (renHp_inj c2 hbk hdk hne) (by cases k <;> exact hkr) hL hL'
    · obtain ⟨hlt, _⟩ := hpBelow_get hb hbk
      simp only [φ2, hlt, if_true] at hL
      exact k2.prot _ _ L (renHp_get c2 hbk) (by cases k <;> exact hkr) hL
  have t2 : TRel φ2 tm' a1.tmps := by
    refine ⟨by have := k3.1; simpa using this, fun i v hv => ?_⟩
    rcases tmBelow_get c1 hv with hj | hs
    · exact .inl (isJunk_eq hj)
    · rcases k3.2 i (renV σ 5 v) (by simp [hv]) with h | ⟨v', q1, q2⟩
      · exact absurd h (renV_junk hs)
      · exact .inr ⟨v', q1, ren_bwd e2 5 v v' hs q2⟩
  have d2 : DRel φ2 ds a1.defers := by
    have : ∀ (ds : List Nat) (xs : List Deferred), dsBelow lo ds = true → DRel φ1 ds xs → DRel φ2 ds xs := by
      intro ds
      induction ds with
      | nil => intro xs _ h; cases xs <;> exact h
      | cons d ds ih =>
        intro xs hb h
        simp only [dsBelow, List.all_cons, Bool.and_eq_true, decide_eq_true_eq] at hb
        cases xs with
        | nil => exact h
        | cons x xs =>
          obtain ⟨⟨L, q1, q2⟩, q3⟩ := h
          exact ⟨⟨L, by rw [← e4 d hb.1]; exact q1, q2⟩, ih xs hb.2 q3⟩
    exact this ds _ c4 k4
  have r2 : RRel φ2 r rc := by
    cases r with
    | none => cases rc <;> exact hr
    | some l =>
      cases rc with
      | none => exact hr
      | some cc =>
        obtain ⟨L, q1, q2⟩ := hr
        simp only [rBelow, decide_eq_true_eq] at c5
        exact ⟨L, by rw [e3 l c5]; exact q1, q2⟩
  have := h2 φ2 w1 K a1 rc g2 (fun b h3 h4 => by simp only [φ2, show ¬ b < nx by omega, h4, if_true, if_false]) t2 d2 r2
  have mono : ∀ (m : Nat) (a : Act) (w2 : World), Code.roundsIn (fw rc) 0 P c (PostL lo φ2 K w1 R) m a w2 → Code.roundsIn (fw rc) 0 P c (PostL lo φ K w R) m a w2 := by
    intro m
    induction m with
    | zero => intro a w2 h; exact h
    | succ m ih =>
      intro a w2 h
      rw [roundsIn_succ] at h ⊢
      refine wpIn_mono h ?_
      intro e a2 w3 hq
      have key : ∀ e, PostL lo φ2 K w1 R e a2 w3 → PostL lo φ K w R e a2 w3 := by
        rintro e ⟨rfl, φ', q1, q2, q3, q4, q5⟩
        refine ⟨rfl, φ', fun b hb => ?_, q2, q3, q4, k5.trans q5⟩
        rw [q1 b hb]
        rcases hb with hb | hb
        · exact e3 b hb
        · simp only [φ2, show ¬ b < nx by omega, show ¬ b < R.nx by omega, if_false]
      cases e <;> first | exact ih _ _ hq | exact key _ hq
  exact mono m a1 w1 this
/-- What is said to come out, of what comes out. -/
theorem codeOk_sub {r : Option Nat} {c : Code} {tm : List Value} {ds : List Nat} {nx : Nat} {R : Res} (h : CodeOk P r c tm ds H nx R) {tm' : List Value} {H' : Hp} (ht : tm'.length = R.tm.length ∧ ∀ (i : Nat) v, tm'[i]? = some v → isJunk v = true ∨ R.tm[i]? = some v) (hH : ∀ b k, H'.get b = some k → R.H.get b = some k) :
    CodeOk P r c tm ds H nx { R with tm := tm', H := H' } := by
  refine ⟨h.1, fun φ w K a rc g hf ht0 hd hr => wpIn_mono (h.2 φ w K a rc g hf ht0 hd hr) ?_⟩
  rintro e a1 w1 ⟨rfl, φ1, k1, k2, k3, k4, k5⟩
  refine ⟨rfl, φ1, k1, k2.sub hH, ⟨by rw [ht.1]; exact k3.1, fun i v hv => ?_⟩, k4, k5⟩
  rcases ht.2 i v hv with hj | hv'
  · exact .inl (isJunk_eq hj)
  · exact k3.2 i v hv'
def maskT : List Value → List Value → List Value
  | [], [] => []
  | p :: ps, v :: vs => (match isJunk p with | true => junk | false => v) :: maskT ps vs
  | _, vs => vs
theorem maskT_len : ∀ (ps vs : List Value), (maskT ps vs).length = vs.length
  | [], [] => rfl
  | p :: ps, v :: vs => by simp [maskT, maskT_len ps vs]
  | [], _ :: _ => by simp [maskT]
  | _ :: _, [] => by simp [maskT]
theorem maskT_get : ∀ (ps vs : List Value) (i : Nat) (v : Value), (maskT ps vs)[i]? = some v → isJunk v = true ∨ vs[i]? = some v
  | [], [], i, v, h => by simp [maskT] at h
  | p :: ps, u :: vs, 0, v, h => by
    simp only [maskT, List.getElem?_cons_zero, Option.some.injEq] at h
    cases hp : isJunk p with
    | true => rw [hp] at h; dsimp only at h; subst h; exact .inl rfl
    | false => rw [hp] at h; dsimp only at h; subst h; exact .inr rfl
  | p :: ps, u :: vs, i + 1, v, h => by
    simp only [maskT, List.getElem?_cons_succ] at h ⊢
    exact maskT_get ps vs i v h
  | [], u :: vs, i, v, h => by simp only [maskT] at h; exact .inr h
  | p :: ps, [], i, v, h => by simp [maskT] at h
def pickH (H : Hp) : List Nat → Option Hp
  | [] => some []
  | b :: r => match H.get b, pickH H r with
    | some k, some H' => some ((b, k) :: H')
    | _, _ => none
theorem pickH_get {b : Nat} {k : Blk} : ∀ {ks : List Nat} {H' : Hp}, pickH H ks = some H' → H'.get b = some k → H.get b = some k
  | [], H', h, hb => by simp only [pickH, Option.some.injEq] at h; subst h; cases hb
  | c :: r, H', h, hb => by
    simp only [pickH] at h
    split at h
    case h_2 => cases h
    rename_i x H2 hx h2
    cases h
    by_cases hc : c = b
    · subst hc; simp [Hp.get] at hb; subst hb; exact hx
    · simp [Hp.get, hc] at hb; exact pickH_get h2 hb
def codeOutK (ks : List Nat) (pat : List Value) (x : Option (Res × Eqs)) : Option (Res × Eqs) := match x with
  | some (R, e) => match pickH R.H ks with
    | some H' => some (⟨R.e, maskT pat R.tm, R.ds, H', R.nx⟩, e)
    | none => none
  | none => none
/-- Code, by hints; of what is new the blocks ks are kept, under their names. -/
theorem code_k {hs : Hints} {ch : List CHint} {E : Ev} {r : Option Nat} {c : Code} {tm : List Value} {ds : List Nat} {nx : Nat} {R : Res} (ks : List Nat) (hE : E.Ok P) (hsp : NoSpecial P) (hk : HintsOk P hs) (hch : CHintsOk P ch)
    (h : leftsO (codeOutK ks R.tm (sCode P hs ch E r c tm ds H nx)) = some (R, rightsO (codeOutK ks R.tm (sCode P hs ch E r c tm ds H nx)))) : CodeOk P r c tm ds H nx R := by
  obtain ⟨e, h1, h2⟩ := out_of h
  generalize R.tm = pat at h1
  unfold codeOutK at h1
  split at h1
  case h_2 => cases h1
  rename_i R1 e1 h3
  split at h1
  case h_2 => cases h1
  rename_i H' hp
  cases h1
  exact codeOk_sub (sCode_ok hk hch hE hsp c h3 h2) ⟨maskT_len _ _, fun i v hv => maskT_get _ _ i v hv⟩ (fun b k hb => pickH_get hp hb)
end Go.En
