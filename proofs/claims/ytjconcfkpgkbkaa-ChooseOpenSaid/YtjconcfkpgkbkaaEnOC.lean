/- The engine, part OC: forgetting, framing, and whole code with hints. -/
import Derived.Test.YtjconcfkpgkbkaaEnOB
namespace Go.En
set_option linter.unusedVariables false
variable {P : Program} {φ : Ren} {H : Hp} {K : Nat → Prop} {w : World}

/-! ### Forgetting -/
def isJunk : Value → Bool
  | .complex .f32 0 0 => true
  | _ => false
theorem isJunk_eq {v : Value} (h : isJunk v = true) : v = junk := by
  unfold isJunk at h
  split at h
  · rfl
  · cases h
/-- The value names nothing from lo on. -/
def smallL (f : Value → Bool) : List Value → Bool
  | [] => true
  | v :: r => f v && smallL f r
def small (lo : Nat) : Nat → Value → Bool
  | _, .bool _ => true
  | _, .int _ _ => true
  | _, .float _ _ => true
  | _, .string _ => true
  | _, .pointer none => true
  | _, .pointer (some a) => decide (a.block < lo)
  | _, .slice none _ _ => true
  | _, .slice (some a) _ _ => decide (a.block < lo)
  | _, .map none => true
  | _, .map (some b) => decide (b < lo)
  | _, .nilFunc => true
  | _, .nilIface => true
  | n + 1, .func (.func _) a b => smallL (small lo n) a.toList && smallL (small lo n) b.toList
  | n + 1, .func (.yield l) a b => decide (l < lo) && smallL (small lo n) a.toList && smallL (small lo n) b.toList
  | n + 1, .iface _ v => small lo n v
  | n + 1, .agg a => smallL (small lo n) a.toList
  | n + 1, .tuple a => smallL (small lo n) a.toList
  | _, _ => false

theorem smallL_rel {φ' : Ren} {f : Value → Bool} (hf : ∀ v v', f v = true → VRel φ' v v' → VRel φ v v') : ∀ {xs ys : List Value}, smallL f xs = true → LRel φ' xs ys → LRel φ xs ys
  | [], [], _, _ => trivial
  | x :: xs, y :: ys, h, hr => by
    simp only [smallL, Bool.and_eq_true] at h
    exact ⟨hf x y h.1 hr.1, smallL_rel hf h.2 hr.2⟩
  | [], _ :: _, _, h => h.elim
  | _ :: _, [], _, h => h.elim

theorem small_rel {φ' : Ren} {lo : Nat} (hφ : ∀ b, b < lo → φ' b = φ b) : ∀ (n : Nat) (v v' : Value), small lo n v = true → VRel φ' v v' → VRel φ v v' := by
  have base : ∀ (n : Nat) (v v' : Value), (match v with | .func .. => False | .iface .. => False | .agg _ => False | .tuple _ => False | _ => True) → small lo n v = true → VRel φ' v v' → VRel φ v v' := by
    intro n v v' hv hs hr
    cases hr with
    | bool b => exact .bool b
    | int k n => exact .int k n
    | float k n => exact .float k n
    | str s => exact .str s
    | ptrN => exact .ptrN
    | ptr b o L h => simp only [small, decide_eq_true_eq] at hs; exact .ptr b o L (by rw [← hφ b hs]; exact h)
    | slN n c => exact .slN n c
    | sl b o n c L h hc => simp only [small, decide_eq_true_eq] at hs; exact .sl b o n c L (by rw [← hφ b hs]; exact h) hc
    | slO b o n c c' L h hc hn hl => simp only [small, decide_eq_true_eq] at hs; exact .slO b o n c c' L (by rw [← hφ b hs]; exact h) hc hn hl
    | slE b o c a' L h hc => simp only [small, decide_eq_true_eq] at hs; exact .slE b o c a' L (by rw [← hφ b hs]; exact h) hc
    | mapN => exact .mapN
    | map r L h => simp only [small, decide_eq_true_eq] at hs; exact .map r L (by rw [← hφ r hs]; exact h)
    | nilFunc => exact .nilFunc
    | nilIface => exact .nilIface
    | func => exact hv.elim
    | iface => exact hv.elim
    | agg => exact hv.elim
    | tuple => exact hv.elim
  intro n
  induction n with
  | zero =>
    intro v v' hs hr
    cases v with
    | func f a b => cases f <;> simp [small] at hs
    | iface t u => simp [small] at hs
    | agg a => simp [small] at hs
    | tuple a => simp [small] at hs
    | _ => exact base 0 _ v' trivial hs hr
  | succ n ih =>
    intro v v' hs hr
    cases v with
    | func f a b =>
      obtain ⟨fn', ys, us, rfl, hf, h1, h2⟩ := hr.func_inv
      cases hf with
      | func f =>
        simp only [small, Bool.and_eq_true] at hs
        exact .func' (.func f) (smallL_rel ih hs.1 h1) (smallL_rel ih hs.2 h2)
      | yield l L hl =>
        simp only [small, Bool.and_eq_true, decide_eq_true_eq] at hs
        exact .func' (.yield l L (by rw [← hφ l hs.1.1]; exact hl)) (smallL_rel ih hs.1.2 h1) (smallL_rel ih hs.2 h2)
      | _ => simp [small] at hs
    | iface t u =>
      cases hr with
      | iface t v v' h => exact .iface t _ _ (ih _ _ hs h)
    | agg a =>
      obtain ⟨ys, rfl, hl⟩ := hr.agg_inv
      exact .agg' (smallL_rel ih hs hl)
    | tuple a =>
      obtain ⟨ys, rfl, hl⟩ := hr.tuple_inv
      exact .tuple' (smallL_rel ih hs hl)
    | _ => exact base (n + 1) _ v' trivial hs hr

/-- What is kept of the temporaries: what the pattern asks for, where it names nothing new. -/
def tidyT (lo : Nat) : List Value → List Value → List Value
  | [], [] => []
  | p :: ps, v :: vs => (match isJunk p with | true => junk | false => match small lo 5 v with | true => v | false => junk) :: tidyT lo ps vs
  | _, vs => vs.map fun _ => junk
theorem tidyT_len (lo : Nat) : ∀ (ps vs : List Value), (tidyT lo ps vs).length = vs.length
  | [], [] => rfl
  | p :: ps, v :: vs => by simp [tidyT, tidyT_len lo ps vs]
  | [], _ :: _ => by simp [tidyT]
  | _ :: _, [] => by simp [tidyT]
theorem tidyT_get (lo : Nat) {j : Nat} {u : Value} : ∀ (ps vs : List Value), (tidyT lo ps vs)[j]? = some u → u = junk ∨ (vs[j]? = some u ∧ small lo 5 u = true) := by
  intro ps vs
  induction vs generalizing ps j with
  | nil => intro h; cases ps <;> simp [tidyT] at h
  | cons v vs ih =>
    intro h
    cases ps with
    | nil =>
      simp only [tidyT, List.map_cons] at h
      cases j with
      | zero => simp at h; exact .inl h.symm
      | succ j =>
        simp only [List.getElem?_cons_succ, List.getElem?_map, Option.map_eq_some_iff] at h
        obtain ⟨_, _, rfl⟩ := h
        exact .inl rfl
    | cons p ps =>
      simp only [tidyT] at h
      cases j with
      | zero =>
        simp only [List.getElem?_cons_zero, Option.some.injEq] at h
        split at h
        · exact .inl h.symm
        · split at h
          · rename_i hs; subst h; exact .inr ⟨rfl, hs⟩
          · exact .inl h.symm
      | succ j =>
        simp only [List.getElem?_cons_succ] at h ⊢
        exact ih ps h

def tidyB (lo : Nat) : Blk → Bool
  | .cells cs _ => smallL (small lo 5) cs
  | .loop l => smallL (small lo 5) l.tmps.toList && decide (l.defers < lo)
  | _ => true
def tidyH (lo : Nat) : Hp → Hp
  | [] => []
  | (b, k) :: r => match decide (b < lo) && tidyB lo k with
    | true => (b, k) :: tidyH lo r
    | false => tidyH lo r
theorem smallL_get {f : Value → Bool} {j : Nat} {v : Value} : ∀ {cs : List Value}, smallL f cs = true → cs[j]? = some v → f v = true
  | [], _, h => by simp at h
  | x :: cs, hs, h => by
    simp only [smallL, Bool.and_eq_true] at hs
    cases j with
    | zero => simp at h; subst h; exact hs.1
    | succ j => simp at h; exact smallL_get hs.2 h
theorem tidyH_absent {lo b : Nat} : ∀ {H : Hp}, (∀ k, Hp.get H b = some k → False) → ∀ k, (tidyH lo H).get b = some k → False
  | [], _, k, h => by simp [tidyH, Hp.get] at h
  | (c, x) :: r, hn, k, h => by
    by_cases hc : c = b
    · subst hc; exact hn x (by simp [Hp.get])
    · have hn' : ∀ k, Hp.get r b = some k → False := fun k hk => hn k (by simp [Hp.get, hc, hk])
      simp only [tidyH] at h
      split at h
      · simp [Hp.get, hc] at h; exact tidyH_absent hn' k h
      · exact tidyH_absent hn' k h

/-- No name twice. -/
def nodupN : Hp → Bool
  | [] => true
  | (b, _) :: r => !(r.any fun x => x.1 == b) && nodupN r
theorem nodup_absent {b : Nat} : ∀ {r : Hp}, (r.any fun x => x.1 == b) = false → ∀ k, Hp.get r b = some k → False
  | [], _, k, h => by simp [Hp.get] at h
  | (c, x) :: r, hn, k, h => by
    simp only [List.any_cons, Bool.or_eq_false_iff] at hn
    have hc : c ≠ b := by simpa using hn.1
    simp [Hp.get, hc] at h
    exact nodup_absent hn.2 k h
theorem tidyH_get {lo b : Nat} {k : Blk} : ∀ {H : Hp}, nodupN H = true → (tidyH lo H).get b = some k → H.get b = some k ∧ b < lo ∧ tidyB lo k = true
  | [], _, h => by simp [tidyH, Hp.get] at h
  | (c, x) :: r, hn, h => by
    simp only [nodupN, Bool.and_eq_true, Bool.not_eq_true'] at hn
    simp only [tidyH] at h
    split at h
    · rename_i hc
      simp only [Bool.and_eq_true, decide_eq_true_eq] at hc
      by_cases hcb : c = b
      · subst hcb
        simp [Hp.get] at h
        subst h
        exact ⟨by simp [Hp.get], hc⟩
      · simp [Hp.get, hcb] at h
        have := tidyH_get hn.2 h
        exact ⟨by simp [Hp.get, hcb, this.1], this.2⟩
    · have := tidyH_get hn.2 h
      have hcb : c ≠ b := by rintro rfl; exact nodup_absent hn.1 k this.1
      exact ⟨by simp [Hp.get, hcb, this.1], this.2⟩

def tidyR (lo : Nat) (pat : List Value) (R : Res) : Res := ⟨R.e, tidyT lo pat R.tm, R.ds, tidyH lo R.H, lo⟩

theorem good_tidy {φ' : Ren} {lo : Nat} (hφ : ∀ b, b < lo → φ' b = φ b) {H' : Hp} (hn : nodupN H' = true) (g : Good φ' H' K w) : Good φ (tidyH lo H') K w := by
  refine ⟨fun b k hb => ?_, fun b c k k' L L' hb hc hne hkr h1 h2 => ?_, fun b k L hb hkr h1 => ?_, g.kin⟩
  · obtain ⟨h1, h2, h3⟩ := tidyH_get hn hb
    obtain ⟨L, hL, hbr⟩ := g.rel b k h1
    refine ⟨L, by rw [← hφ b h2]; exact hL, ?_⟩
    cases k with
    | cells cs ro =>
      obtain ⟨arr, el, fr, e1, e2, e3⟩ := hbr
      refine ⟨arr, el, fr, e1, fun j v hv => ?_, e3⟩
      obtain ⟨v', f1, f2⟩ := e2 j v hv
      exact ⟨v', f1, small_rel hφ 5 v v' (smallL_get h3 hv) f2⟩
    | loop l =>
      simp only [tidyB, Bool.and_eq_true, decide_eq_true_eq] at h3
      obtain ⟨l', e1, e2, e3, e4, e5, e6, e7, D, e8, e9⟩ := hbr
      refine ⟨l', e1, e2, e3, ⟨e4.1, fun j v hv => ?_⟩, e5, e6, e7, D, by rw [← hφ _ h3.2]; exact e8, e9⟩
      rcases e4.2 j v hv with h0 | ⟨v', f1, f2⟩
      · exact .inl h0
      · exact .inr ⟨v', f1, small_rel hφ 5 v v' (smallL_get h3.1 hv) f2⟩
    | defd => exact hbr
    | hid => exact hbr
  · obtain ⟨a1, a2, a3⟩ := tidyH_get hn hb
    obtain ⟨b1, b2, b3⟩ := tidyH_get hn hc
    exact g.sep b c k k' L L' a1 b1 hne hkr (by rw [hφ b a2]; exact h1) (by rw [hφ c b2]; exact h2)
  · obtain ⟨a1, a2, a3⟩ := tidyH_get hn hb
    exact g.prot b k L a1 hkr (by rw [hφ b a2]; exact h1)

def dsBelow (lo : Nat) (ds : List Nat) : Bool := ds.all fun d => decide (d < lo)
def hpBelow (lo : Nat) : Hp → Bool
  | [] => true
  | (b, k) :: r => (decide (b < lo) && tidyB lo k) && hpBelow lo r
theorem tidyH_id {lo : Nat} : ∀ {H : Hp}, hpBelow lo H = true → tidyH lo H = H
  | [], _ => rfl
  | (b, k) :: r, h => by
    simp only [hpBelow, Bool.and_eq_true] at h
    simp only [tidyH, h.1.1, h.1.2, Bool.and_self, tidyH_id h.2]
def tmBelow (lo : Nat) : List Value → Bool
  | [] => true
  | v :: r => (isJunk v || small lo 5 v) && tmBelow lo r
theorem isJunk_not {v v' : Value} (h : isJunk v = true) : ¬ VRel φ v v' := by
  intro hr
  rw [isJunk_eq h] at hr
  exact not_rel_junk hr
theorem tmBelow_get {lo j : Nat} {v : Value} : ∀ {tm : List Value}, tmBelow lo tm = true → tm[j]? = some v → isJunk v = true ∨ small lo 5 v = true
  | [], _, h => by simp at h
  | x :: tm, hs, h => by
    simp only [tmBelow, Bool.and_eq_true, Bool.or_eq_true] at hs
    cases j with
    | zero => simp at h; subst h; exact hs.1
    | succ j => simp at h; exact tmBelow_get hs.2 h
theorem drel_below {φ' : Ren} {lo : Nat} (hφ : ∀ b, b < lo → φ' b = φ b) : ∀ {ds : List Nat} {xs : List Deferred}, dsBelow lo ds = true → DRel φ' ds xs → DRel φ ds xs
  | [], [], _, _ => trivial
  | d :: ds, x :: xs, hb, h => by
    simp only [dsBelow, List.all_cons, Bool.and_eq_true, decide_eq_true_eq] at hb
    obtain ⟨⟨L, h1, h2⟩, h3⟩ := h
    exact ⟨⟨L, by rw [← hφ d hb.1]; exact h1, h2⟩, drel_below hφ hb.2 h3⟩
  | [], _ :: _, _, h => h.elim
  | _ :: _, [], _, h => h.elim
def rBelow (lo : Nat) : Option Nat → Bool
  | none => true
  | some l => decide (l < lo)

theorem codeOk_tidy {r : Option Nat} {c : Code} {tm : List Value} {ds : List Nat} {nx : Nat} {R : Res} (h : CodeOk P r c tm ds H nx R) (pat : List Value) (hn : nodupN R.H = true) (hd : dsBelow nx R.ds = true)
    (hH0 : nodupN H = true) (hH : hpBelow nx H = true) (hT : tmBelow nx tm = true) (hD : dsBelow nx ds = true) (hr0 : rBelow nx r = true) : CodeOk P r c tm ds H nx (tidyR nx pat R) := by
  refine ⟨Nat.le_refl _, fun φ w K a rc g hf ht hds hr => ?_⟩
  let φ0 : Ren := fun b => if b < nx then φ b else none
  have hφ : ∀ b, b < nx → φ b = φ0 b := fun b hb => by simp [φ0, hb]
  have g0 : Good φ0 H K w := by have := good_tidy hφ hH0 g; rwa [tidyH_id hH] at this
  have t0 : TRel φ0 tm a.tmps := ⟨ht.1, fun i v hv => by
    rcases ht.2 i v hv with h0 | ⟨v', h1, h2⟩
    · exact .inl h0
    · rcases tmBelow_get hT hv with hj | hs
      · exact absurd h2 (isJunk_not hj)
      · exact .inr ⟨v', h1, small_rel hφ 5 v v' hs h2⟩⟩
  have r0 : RRel φ0 r rc := by
    cases r <;> cases rc <;> simp only [RRel] at hr ⊢
    obtain ⟨L, h1, h2⟩ := hr
    simp only [rBelow, decide_eq_true_eq] at hr0
    exact ⟨L, by rw [← hφ _ hr0]; exact h1, h2⟩
  refine wpIn_mono (h.2 φ0 w K a rc g0 (fun b h1 h2 => by simp [φ0]; omega) t0 (drel_below hφ hD hds) r0) ?_
  rintro e a1 w1 ⟨rfl, φ', k1, k2, k3, k4, k5⟩
  have hφ' : ∀ b, b < nx → φ' b = φ b := fun b hb => by rw [k1.2 b (.inl hb), hφ b hb]
  refine ⟨rfl, φ, Ext.refl _ _ _, good_tidy hφ' hn k2, ⟨by rw [← k3.1]; exact tidyT_len _ _ _, fun j v hv => ?_⟩, drel_below hφ' hd k4, k5⟩
  rcases tidyT_get nx pat R.tm hv with h0 | ⟨h1, h2⟩
  · exact .inl h0
  · rcases k3.2 j v h1 with h0 | ⟨v', f1, f2⟩
    · exact .inl h0
    · exact .inr ⟨v', f1, small_rel hφ' 5 v v' h2 f2⟩

/-! ### Less known before, a frame around -/
theorem codeOk_pre {r : Option Nat} {c : Code} {tm tm0 : List Value} {ds : List Nat} {H0 : Hp} {nx : Nat} {R : Res} (h : CodeOk P r c tm0 ds H0 nx R) (hH : ∀ φ K w, Good φ H K w → Good φ H0 K w) (hT : ∀ φ ts, TRel φ tm ts → TRel φ tm0 ts) : CodeOk P r c tm ds H nx R :=
  ⟨h.1, fun φ w K a rc g hf ht hd hr => h.2 φ w K a rc (hH _ _ _ g) hf (hT _ _ ht) hd hr⟩

/-- Every block that is only read has an old name. -/
def roOld (H0 : Hp) : Hp → Bool
  | [] => true
  | (b, k) :: r => (k.rw || (H0.get b).isSome) && roOld H0 r
theorem roOld_get {H0 : Hp} {b : Nat} {k : Blk} : ∀ {H : Hp}, roOld H0 H = true → H.get b = some k → k.rw = false → ∃ k0, H0.get b = some k0
  | [], _, h, _ => by simp [Hp.get] at h
  | (c, x) :: r, hr, h, hk => by
    simp only [roOld, Bool.and_eq_true, Bool.or_eq_true] at hr
    by_cases hc : c = b
    · subst hc
      simp [Hp.get] at h; subst h
      rcases hr.1 with h1 | h1
      · rw [hk] at h1; cases h1
      · exact Option.isSome_iff_exists.1 h1
    · simp [Hp.get, hc] at h; exact roOld_get hr.2 h hk

theorem codeOk_frame {r : Option Nat} {c : Code} {tm : List Value} {ds : List Nat} {H1 F : Hp} {nx : Nat} {R : Res} (h : CodeOk P r c tm ds H1 nx R) (hro : roOld H1 R.H = true) (hF : ∀ b k, F.get b = some k → H1.get b = none)
    (hG : ∀ b k, H1.get b = some k → H.get b = some k) (hG2 : ∀ b k, F.get b = some k → H.get b = some k) : CodeOk P r c tm ds H nx { R with H := R.H ++ F } := by
  refine ⟨h.1, fun φ w K a rc g hf ht hd hr => ?_⟩
  let K2 : Nat → Prop := fun c => K c ∨ ∃ b k L, F.get b = some k ∧ φ b = some L ∧ L.blk = c
  have g1 : Good φ H1 K2 w := by
    refine ⟨fun b k hb => g.rel b k (hG b k hb), fun b c k k' L L' hb hc => g.sep b c k k' L L' (hG b k hb) (hG c k' hc), fun b k L hb hkr hL hK => ?_, fun c hc => ?_⟩
    · rcases hK with hK | ⟨d, k', L', hd', hL', he⟩
      · exact g.prot b k L (hG b k hb) hkr hL hK
      · have hne : b ≠ d := by rintro rfl; rw [hF _ _ hd'] at hb; cases hb
        exact g.sep b d k k' L L' (hG b k hb) (hG2 d k' hd') hne hkr hL hL' he.symm
    · rcases hc with hK | ⟨b, k, L, hb, hL, he⟩
      · exact g.kin c hK
      · have := (g.at (hG2 b k hb) hL).lt; omega
  refine wpIn_mono (h.2 φ w K2 a rc g1 hf ht hd hr) ?_
  rintro e a1 w1 ⟨rfl, φ', k1, k2, k3, k4, k5⟩
  refine ⟨rfl, φ', k1, ?_, k3, k4, ⟨k5.os, k5.tape, k5.output, k5.size, fun c hc => k5.kept c (.inl hc)⟩⟩
  have hget : ∀ b k, Hp.get (R.H ++ F) b = some k → R.H.get b = some k ∨ (R.H.get b = none ∧ F.get b = some k) := by
    intro b k hb
    rw [Hp.get_append] at hb
    cases hR : R.H.get b with
    | some k' => rw [hR] at hb; left; exact hb
    | none => rw [hR] at hb; exact .inr ⟨rfl, hb⟩
  have hFL : ∀ b k L, F.get b = some k → φ' b = some L → φ b = some L := by
    intro b k L hb hL
    obtain ⟨M, hM, _⟩ := g.rel b k (hG2 b k hb)
    have := k1.1 _ _ hM
    rw [hL] at this; cases this; exact hM
  refine ⟨fun b k hb => ?_, fun b c k k' L L' hb hc hne hkr hL hL' => ?_, fun b k L hb hkr hL hK => ?_, fun c hc => Nat.lt_of_lt_of_le (g.kin c hc) k5.size⟩
  · rcases hget b k hb with hb | ⟨_, hb⟩
    · exact k2.rel b k hb
    · obtain ⟨L, hL, hbr⟩ := g.rel b k (hG2 b k hb)
      exact ⟨L, k1.1 _ _ hL, (hbr.congr (k5.kept L.blk (.inr ⟨b, k, L, hb, hL, rfl⟩))).mono k1.1⟩
  · rcases hget b k hb with hb | ⟨_, hb⟩
    · rcases hget c k' hc with hc | ⟨_, hc⟩
      · exact k2.sep b c k k' L L' hb hc hne hkr hL hL'
      · exact fun e => k2.prot b k L hb hkr hL (.inr ⟨c, k', L', hc, hFL c k' L' hc hL', e.symm⟩)
    · have hLb := hFL b k L hb hL
      rcases hget c k' hc with hc | ⟨_, hc⟩
      · cases hkc : k'.rw with
        | true => exact fun e => k2.prot c k' L' hc hkc hL' (.inr ⟨b, k, L, hb, hLb, e⟩)
        | false =>
          obtain ⟨k0, h0⟩ := roOld_get hro hc hkc
          obtain ⟨M, hM, _⟩ := g.rel c k0 (hG c k0 h0)
          have := k1.1 _ _ hM
          rw [hL'] at this; cases this
          exact g.sep b c k k0 L L' (hG2 b k hb) (hG c k0 h0) hne hkr hLb hM
      · exact g.sep b c k k' L L' (hG2 b k hb) (hG2 c k' hc) hne hkr hLb (hFL c k' L' hc hL')
  · rcases hget b k hb with hb | ⟨_, hb⟩
    · exact k2.prot b k L hb hkr hL ∘ .inl <| hK
    · exact g.prot b k L (hG2 b k hb) hkr (hFL b k L hb hL) hK
end Go.En
