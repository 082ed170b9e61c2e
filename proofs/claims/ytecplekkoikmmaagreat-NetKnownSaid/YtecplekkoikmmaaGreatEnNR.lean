/- The engine, part NR: known calls at names of their own, moved to where they are asked for. -/
import Derived.Test.YtecplekkoikmmaaGreatEnQ
noncomputable section
namespace Go.En
set_option linter.unusedVariables false
variable {P : Program} {φ : Ren} {H : Hp} {K : Nat → Prop} {w : World}

def renV (ρ : Nat → Nat) : Nat → Value → Value
  | _, .pointer (some ⟨b, o, none⟩) => .pointer (some ⟨ρ b, o, none⟩)
  | _, .slice (some ⟨b, o, none⟩) n c => .slice (some ⟨ρ b, o, none⟩) n c
  | _, .map (some b) => .map (some (ρ b))
  | n + 1, .func (.func f) a b => .func (.func f) (a.toList.map (renV ρ n)).toArray (b.toList.map (renV ρ n)).toArray
  | n + 1, .func (.yield l) a b => .func (.yield (ρ l)) (a.toList.map (renV ρ n)).toArray (b.toList.map (renV ρ n)).toArray
  | n + 1, .iface t v => .iface t (renV ρ n v)
  | n + 1, .agg a => .agg (a.toList.map (renV ρ n)).toArray
  | n + 1, .tuple a => .tuple (a.toList.map (renV ρ n)).toArray
  | _, v => v

theorem renL_fwd {φ1 : Ren} {f : Value → Bool} {g : Value → Value} (hf : ∀ v v', f v = true → VRel φ v v' → VRel φ1 (g v) v') : ∀ {xs ys : List Value}, smallL f xs = true → LRel φ xs ys → LRel φ1 (xs.map g) ys
  | [], [], _, _ => trivial
  | x :: xs, y :: ys, h, hr => by
    simp only [smallL, Bool.and_eq_true] at h
    exact ⟨hf x y h.1 hr.1, renL_fwd hf h.2 hr.2⟩
  | [], _ :: _, _, h => h.elim
  | _ :: _, [], _, h => h.elim
theorem renL_bwd {φ1 : Ren} {f : Value → Bool} {g : Value → Value} (hf : ∀ v v', f v = true → VRel φ1 (g v) v' → VRel φ v v') : ∀ {xs ys : List Value}, smallL f xs = true → LRel φ1 (xs.map g) ys → LRel φ xs ys
  | [], [], _, _ => trivial
  | x :: xs, y :: ys, h, hr => by
    simp only [smallL, Bool.and_eq_true] at h
    exact ⟨hf x y h.1 hr.1, renL_bwd hf h.2 hr.2⟩
  | [], _ :: _, _, h => h.elim
  | _ :: _, [], _, h => h.elim

theorem ren_fwd {φ1 : Ren} {ρ : Nat → Nat} {lo : Nat} (hφ : ∀ b L, b < lo → φ b = some L → φ1 (ρ b) = some L) : ∀ (n : Nat) (v v' : Value), small lo n v = true → VRel φ v v' → VRel φ1 (renV ρ n v) v' := by
  have base : ∀ (n : Nat) (v v' : Value), (match v with | .func .. => False | .iface .. => False | .agg _ => False | .tuple _ => False | _ => True) → small lo n v = true → VRel φ v v' → VRel φ1 (renV ρ n v) v' := by
    intro n v v' hv hs hr
    cases hr with
    | bool b => simp only [renV]; exact .bool b
    | int k n => simp only [renV]; exact .int k n
    | float k n => simp only [renV]; exact .float k n
    | str s => simp only [renV]; exact .str s
    | ptrN => simp only [renV]; exact .ptrN
    | ptr b o L h => simp only [small, decide_eq_true_eq] at hs; simp only [renV]; exact .ptr _ o L (hφ b L hs h)
    | slN n c => simp only [renV]; exact .slN n c
    | sl b o n c L h hc => simp only [small, decide_eq_true_eq] at hs; simp only [renV]; exact .sl _ o n c L (hφ b L hs h) hc
    | slO b o n c c' L h hc hn hl => simp only [small, decide_eq_true_eq] at hs; simp only [renV]; exact .slO _ o n c c' L (hφ b L hs h) hc hn hl
    | slE b o c a' L h hc => simp only [small, decide_eq_true_eq] at hs; simp only [renV]; exact .slE _ o c a' L (hφ b L hs h) hc
    | mapN => simp only [renV]; exact .mapN
    | map r L h => simp only [small, decide_eq_true_eq] at hs; simp only [renV]; exact .map _ L (hφ r L hs h)
    | nilFunc => simp only [renV]; exact .nilFunc
    | nilIface => simp only [renV]; exact .nilIface
    | func => exact hv.elim
    | iface => exact hv.elim
    | agg => exact hv.elim
    | tuple => exact hv.elim
  intro n
  induction n with
  | zero =>
    intro v v' hs hr
    cases v with
    | func f a b => cases f <;> simp [small] at hs
    | iface t u => simp [small] at hs
    | agg a => simp [small] at hs
    | tuple a => simp [small] at hs
    | _ => exact base 0 _ v' trivial hs hr
  | succ n ih =>
    intro v v' hs hr
    cases v with
    | func f a b =>
      obtain ⟨fn', ys, us, rfl, hf, h1, h2⟩ := hr.func_inv
      cases hf with
      | func f =>
        simp only [small, Bool.and_eq_true] at hs
        simp only [renV]
        exact .func' (.func f) (by simpa using renL_fwd ih hs.1 h1) (by simpa using renL_fwd ih hs.2 h2)
      | yield l L hl =>
        simp only [small, Bool.and_eq_true, decide_eq_true_eq] at hs
        simp only [renV]
        exact .func' (.yield _ L (hφ l L hs.1.1 hl)) (by simpa using renL_fwd ih hs.1.2 h1) (by simpa using renL_fwd ih hs.2 h2)
      | _ => simp [small] at hs
    | iface t u =>
      cases hr with
      | iface t v v' h => simp only [renV]; exact .iface t _ _ (ih _ _ hs h)
    | agg a =>
      obtain ⟨ys, rfl, hl⟩ := hr.agg_inv
      simp only [renV]
      exact .agg' (by simpa using renL_fwd ih hs hl)
    | tuple a =>
      obtain ⟨ys, rfl, hl⟩ := hr.tuple_inv
      simp only [renV]
      exact .tuple' (by simpa using renL_fwd ih hs hl)
    | _ => exact base (n + 1) _ v' trivial hs hr

theorem ren_bwd {φ1 : Ren} {ρ : Nat → Nat} {lo : Nat} (hφ : ∀ b L, b < lo → φ1 (ρ b) = some L → φ b = some L) : ∀ (n : Nat) (v v' : Value), small lo n v = true → VRel φ1 (renV ρ n v) v' → VRel φ v v' := by
  have base : ∀ (n : Nat) (v v' : Value), (match v with | .func .. => False | .iface .. => False | .agg _ => False | .tuple _ => False | _ => True) → small lo n v = true → VRel φ1 (renV ρ n v) v' → VRel φ v v' := by
    intro n v v' hv hs hr
    cases v with
    | bool b => simp only [renV] at hr; cases hr; exact .bool b
    | int k m => simp only [renV] at hr; cases hr; exact .int k m
    | float k m => simp only [renV] at hr; cases hr; exact .float k m
    | string s => simp only [renV] at hr; cases hr; exact .str s
    | pointer a =>
      cases a with
      | none => simp only [renV] at hr; cases hr; exact .ptrN
      | some a =>
        simp only [small, decide_eq_true_eq] at hs
        obtain ⟨b, o, x⟩ := a
        cases x with
        | none => simp only [renV] at hr; cases hr with | ptr _ _ L h => exact .ptr b o L (hφ b L hs h)
        | some y => simp only [renV] at hr; cases hr
    | slice a m c =>
      cases a with
      | none => simp only [renV] at hr; cases hr; exact .slN m c
      | some a =>
        simp only [small, decide_eq_true_eq] at hs
        obtain ⟨b, o, x⟩ := a
        cases x with
        | none =>
          simp only [renV] at hr
          cases hr with
          | sl _ _ _ _ L h hc => exact .sl b o m c L (hφ b L hs h) hc
          | slO _ _ _ _ c' L h hc hn hl => exact .slO b o m c c' L (hφ b L hs h) hc hn hl
          | slE _ _ _ a' L h hc => exact .slE b o c a' L (hφ b L hs h) hc
        | some y => simp only [renV] at hr; cases hr
    | map r =>
      cases r with
      | none => simp only [renV] at hr; cases hr; exact .mapN
      | some r => simp only [small, decide_eq_true_eq] at hs; simp only [renV] at hr; cases hr with | map _ L h => exact .map r L (hφ r L hs h)
    | nilFunc => simp only [renV] at hr; cases hr; exact .nilFunc
    | nilIface => simp only [renV] at hr; cases hr; exact .nilIface
    | func => exact hv.elim
    | iface => exact hv.elim
    | agg => exact hv.elim
    | tuple => exact hv.elim
    | _ => simp [small] at hs
  intro n
  induction n with
  | zero =>
    intro v v' hs hr
    cases v with
    | func f a b => cases f <;> simp [small] at hs
    | iface t u => simp [small] at hs
    | agg a => simp [small] at hs
    | tuple a => simp [small] at hs
    | _ => exact base 0 _ v' trivial hs hr
  | succ n ih =>
    intro v v' hs hr
    cases v with
    | func f a b =>
      cases f with
      | func f =>
        simp only [small, Bool.and_eq_true] at hs
        simp only [renV] at hr
        obtain ⟨fn', ys, us, rfl, hf, h1, h2⟩ := hr.func_inv
        cases hf
        exact .func' (.func f) (renL_bwd ih hs.1 (by simpa using h1)) (renL_bwd ih hs.2 (by simpa using h2))
      | yield l =>
        simp only [small, Bool.and_eq_true, decide_eq_true_eq] at hs
        simp only [renV] at hr
        obtain ⟨fn', ys, us, rfl, hf, h1, h2⟩ := hr.func_inv
        cases hf with
        | yield _ L hl => exact .func' (.yield l L (hφ l L hs.1.1 hl)) (renL_bwd ih hs.1.2 (by simpa using h1)) (renL_bwd ih hs.2 (by simpa using h2))
      | _ => simp [small] at hs
    | iface t u =>
      simp only [renV] at hr
      cases hr with
      | iface t v v' h => exact .iface t _ _ (ih _ _ hs h)
    | agg a =>
      simp only [renV] at hr
      obtain ⟨ys, rfl, hl⟩ := hr.agg_inv
      exact .agg' (renL_bwd ih hs (by simpa using hl))
    | tuple a =>
      simp only [renV] at hr
      obtain ⟨ys, rfl, hl⟩ := hr.tuple_inv
      exact .tuple' (renL_bwd ih hs (by simpa using hl))
    | _ => exact base (n + 1) _ v' trivial hs hr

def renH (ρ : Nat → Nat) : List (Nat × List Value) → List (Nat × List Value)
  | [] => []
  | (b, cs) :: r => (ρ b, cs.map (renV ρ 5)) :: renH ρ r
def smallH (n : Nat) : List (Nat × List Value) → Bool
  | [] => true
  | (_, cs) :: r => smallL (small n 5) cs && smallH n r
/-- Where a name goes: the old ones by ρ, the new ones from nx on. -/
def shift (ρ : Nat → Nat) (n nx : Nat) (b : Nat) : Nat := if b < n then ρ b else nx + (b - n)

theorem roHp_get {b : Nat} {k : Blk} : ∀ {V : List (Nat × List Value)}, (roHp V).get b = some k → ∃ cs, k = .cells cs true
  | [], h => by simp [roHp, Hp.get_nil] at h
  | (c, cs) :: r, h => by
    by_cases hc : c = b
    · subst hc; simp [roHp, Hp.get_cons] at h; exact ⟨cs, h.symm⟩
    · simp [roHp, Hp.get_cons, hc] at h; exact roHp_get h
theorem roHp_small {n b : Nat} {cs : List Value} : ∀ {V : List (Nat × List Value)}, below n V = true → smallH n V = true → (roHp V).get b = some (.cells cs true) → b < n ∧ smallL (small n 5) cs = true
  | [], _, _, h => by simp [roHp, Hp.get_nil] at h
  | (c, ds) :: r, hb, hs, h => by
    simp only [below, Bool.and_eq_true, decide_eq_true_eq] at hb
    simp only [smallH, Bool.and_eq_true] at hs
    by_cases hc : c = b
    · subst hc; simp [roHp, Hp.get_cons] at h; subst h; exact ⟨hb.1, hs.1⟩
    · simp [roHp, Hp.get_cons, hc] at h; exact roHp_small hb.2 hs.2 h
theorem rwHp_ren {ρ : Nat → Nat} {n n' nx c : Nat} {k : Blk} : ∀ {N : List (Nat × List Value)}, inNew n n' N = true → smallH n' N = true → (rwHp (renH (shift ρ n nx) N)).get c = some k →
    ∃ b cs, (rwHp N).get b = some (.cells cs false) ∧ c = nx + (b - n) ∧ n ≤ b ∧ b < n' ∧ k = .cells (cs.map (renV (shift ρ n nx) 5)) false ∧ smallL (small n' 5) cs = true
  | [], _, _, h => by simp [renH, rwHp, Hp.get_nil] at h
  | (d, ds) :: r, hb, hs, h => by
    simp only [inNew, Bool.and_eq_true, decide_eq_true_eq] at hb
    simp only [smallH, Bool.and_eq_true] at hs
    have hd : shift ρ n nx d = nx + (d - n) := by unfold shift; rw [if_neg (by omega)]
    by_cases hc : shift ρ n nx d = c
    · simp [renH, rwHp, Hp.get_cons, hc] at h
      subst h
      exact ⟨d, ds, by simp [rwHp, Hp.get_cons], by rw [← hc, hd], hb.1.1, hb.1.2, rfl, hs.1⟩
    · simp [renH, rwHp, Hp.get_cons, hc] at h
      obtain ⟨b, cs, h1, h2, h3, h4, h5, h6⟩ := rwHp_ren hb.2 hs.2 h
      have hdb : d ≠ b := by rintro rfl; exact hc (by rw [hd, h2])
      exact ⟨b, cs, by simp [rwHp, Hp.get_cons, hdb, h1], h2, h3, h4, h5, h6⟩

theorem call_ren {f : FuncId} {args : List Value} {V V' new : List (Nat × List Value)} {n n' : Nat} {v : Value} (h : CallOk P f args (roHp V) n v (rwHp new ++ roHp V) n') (ρ : Nat → Nat) (nx : Nat)
    (hargs : smallL (small n 5) args = true) (hVb : below n V = true) (hVs : smallH n V = true) (hv : small n' 5 v = true) (hnb : inNew n n' new = true) (hns : smallH n' new = true)
    (hV' : ∀ b cs, (roHp V).get b = some (.cells cs true) → ∃ ds, (roHp V').get (ρ b) = some (.cells ds true) ∧ ∀ (j : Nat) u, cs[j]? = some u → ds[j]? = some (renV (shift ρ n nx) 5 u)) :
    CallOk P f (args.map (renV (shift ρ n nx) 5)) (roHp V') nx (renV (shift ρ n nx) 5 v) (rwHp (renH (shift ρ n nx) new) ++ roHp V') (nx + (n' - n)) := by
  have hnn := h.1
  refine ⟨by omega, fun φ w K us g hf hl => ?_⟩
  let φ0 : Ren := fun b => if b < n then φ (ρ b) else none
  let K2 : Nat → Prop := fun c => K c ∨ ∃ b k L, (roHp V').get b = some k ∧ φ b = some L ∧ L.blk = c
  have hsh : ∀ b, b < n → shift ρ n nx b = ρ b := fun b hb => by simp [shift, hb]
  have hφ0 : ∀ b L, b < n → φ (shift ρ n nx b) = some L → φ0 b = some L := fun b L hb hL => by rw [hsh b hb] at hL; simp [φ0, hb, hL]
  have hro : ∀ (b : Nat) (k : Blk), (roHp V).get b = some k → k.rw = true → False := fun b k hb hk => by
    obtain ⟨cs, rfl⟩ := roHp_get hb
    simp [Blk.rw] at hk
  have g0 : Good φ0 (roHp V) K2 w := by
    refine ⟨fun b k hb => ?_, fun b c k k' L L' hb hc hne hkr => (hro b k hb hkr).elim, fun b k L hb hkr => (hro b k hb hkr).elim, fun c hc => ?_⟩
    · obtain ⟨cs, rfl⟩ := roHp_get hb
      obtain ⟨hbn, hsm⟩ := roHp_small hVb hVs hb
      obtain ⟨ds, hds, hdj⟩ := hV' b cs hb
      obtain ⟨L, hL, arr, el, fr, e1, e2, e3⟩ := g.rel _ _ hds
      refine ⟨L, by simp [φ0, hbn, hL], arr, el, fr, e1, fun j u hu => ?_, fun h => by cases h⟩
      obtain ⟨u', f1, f2⟩ := e2 j (renV (shift ρ n nx) 5 u) (hdj j u hu)
      exact ⟨u', f1, ren_bwd hφ0 5 u u' (smallL_get hsm hu) f2⟩
    · rcases hc with hK | ⟨b, k, L, hb, hL, he⟩
      · exact g.kin c hK
      · have := (g.at hb hL).lt; omega
  refine Calls.mono (h.2 φ0 w K2 us g0 (fun b h1 h2 => by simp [φ0]; omega) (renL_bwd (fun u u' hs hr => ren_bwd hφ0 5 u u' hs hr) hargs hl)) ?_
  rintro e w' ⟨v', φ', rfl, x1, x2, x3, x4⟩
  let φ1 : Ren := fun b => if nx ≤ b ∧ b < nx + (n' - n) then φ' (n + (b - nx)) else φ b
  have hold : ∀ b L, φ b = some L → φ1 b = some L := fun b L hL => by
    by_cases hb : nx ≤ b ∧ b < nx + (n' - n)
    · have := hf b hb.1 hb.2; rw [hL] at this; cases this
    · simp [φ1, hb, hL]
  have hnewn : ∀ b, n ≤ b → b < n' → φ1 (nx + (b - n)) = φ' b := fun b h1 h2 => by
    have h3 : nx ≤ nx + (b - n) ∧ nx + (b - n) < nx + (n' - n) := by omega
    simp only [φ1, h3, and_self, if_true]
    congr 1; omega
  have hup : ∀ b L, b < n' → φ' b = some L → φ1 (shift ρ n nx b) = some L := by
    intro b L hb hL
    by_cases hbn : b < n
    · rw [x2.2 b (.inl hbn)] at hL
      simp only [φ0, hbn, if_true] at hL
      rw [hsh b hbn]
      exact hold _ _ hL
    · have : shift ρ n nx b = nx + (b - n) := by simp [shift, hbn]
      rw [this, hnewn b (by omega) hb]; exact hL
  refine ⟨v', φ1, rfl, ren_fwd hup 5 v v' hv x1, ⟨hold, fun b hb => by
    have : ¬ (nx ≤ b ∧ b < nx + (n' - n)) := by omega
    simp [φ1, this]⟩, ?_, ⟨x4.os, x4.tape, x4.output, x4.size, fun c hc => x4.kept c (.inl hc)⟩⟩
  have hget : ∀ c k, Hp.get (rwHp (renH (shift ρ n nx) new) ++ roHp V') c = some k → (rwHp (renH (shift ρ n nx) new)).get c = some k ∨ (roHp V').get c = some k := by
    intro c k hc
    rw [Hp.get_append] at hc
    cases hR : (rwHp (renH (shift ρ n nx) new)).get c with
    | some k' => rw [hR] at hc; left; exact hc
    | none => rw [hR] at hc; exact .inr hc
  have hnw : ∀ c k L, (rwHp (renH (shift ρ n nx) new)).get c = some k → φ1 c = some L → ∃ b cs, Hp.get (rwHp new ++ roHp V) b = some (.cells cs false) ∧ φ' b = some L ∧ c = nx + (b - n) ∧ n ≤ b ∧ k = .cells (cs.map (renV (shift ρ n nx) 5)) false ∧ smallL (small n' 5) cs = true := by
    intro c k L hc hL
    obtain ⟨b, cs, h1, h2, h3, h4, h5, h6⟩ := rwHp_ren hnb hns hc
    refine ⟨b, cs, by rw [Hp.get_append, h1], ?_, h2, h3, h5, h6⟩
    rw [h2, hnewn b h3 h4] at hL
    exact hL
  have hV1 : ∀ c k L, (roHp V').get c = some k → φ1 c = some L → φ c = some L := by
    intro c k L hc hL
    obtain ⟨M, hM, _⟩ := g.rel c k hc
    rw [hold c M hM] at hL
    cases hL; exact hM
  refine ⟨fun c k hc => ?_, fun c d k k' L L' hc hd hne hkr hL hL' => ?_, fun c k L hc hkr hL hK => ?_, fun c hc => Nat.lt_of_lt_of_le (g.kin c hc) x4.size⟩
  · rcases hget c k hc with hc | hc
    · obtain ⟨b, cs, h1, h2, h3, h4, rfl, h6⟩ := rwHp_ren hnb hns hc
      have hb : Hp.get (rwHp new ++ roHp V) b = some (.cells cs false) := by rw [Hp.get_append, h1]
      obtain ⟨L, hL, arr, el, fr, e1, e2, e3⟩ := x3.rel b _ hb
      refine ⟨L, by rw [h2, hnewn b h3 h4]; exact hL, arr, el, fr, e1, fun j u hu => ?_, e3⟩
      simp only [List.getElem?_map, Option.map_eq_some_iff] at hu
      obtain ⟨u0, hu0, rfl⟩ := hu
      obtain ⟨u', f1, f2⟩ := e2 j u0 hu0
      exact ⟨u', f1, ren_fwd hup 5 u0 u' (smallL_get h6 hu0) f2⟩
    · obtain ⟨L, hL, hbr⟩ := g.rel c k hc
      exact ⟨L, hold _ _ hL, (hbr.congr (x4.kept L.blk (.inr ⟨c, k, L, hc, hL, rfl⟩))).mono hold⟩
  · rcases hget c k hc with hc | hc
    · obtain ⟨b, cs, h1, h2, h3, h4, rfl, h6⟩ := hnw c k L hc hL
      rcases hget d k' hd with hd | hd
      · obtain ⟨b2, cs2, j1, j2, j3, j4, rfl, j6⟩ := hnw d k' L' hd hL'
        refine x3.sep b b2 _ _ L L' h1 j1 (fun e => hne ?_) rfl h2 j2
        rw [h3, j3, e]
      · exact fun e => x3.prot b _ L h1 rfl h2 (.inr ⟨d, k', L', hd, hV1 d k' L' hd hL', e.symm⟩)
    · obtain ⟨cs, rfl⟩ := roHp_get hc
      simp [Blk.rw] at hkr
  · rcases hget c k hc with hc | hc
    · obtain ⟨b, cs, h1, h2, h3, h4, rfl, h6⟩ := hnw c k L hc hL
      exact x3.prot b _ L h1 rfl h2 (.inl hK)
    · obtain ⟨cs, rfl⟩ := roHp_get hc
      simp [Blk.rw] at hkr


/-- Pairs of names, found by holding two values side by side. -/
def matL (f : Value → Value → List (Nat × Nat) → List (Nat × Nat)) : List Value → List Value → List (Nat × Nat) → List (Nat × Nat)
  | v :: vs, u :: us, ps => matL f vs us (f v u ps)
  | _, _, ps => ps
def matV : Nat → Value → Value → List (Nat × Nat) → List (Nat × Nat)
  | _, .pointer (some ⟨b, _, none⟩), .pointer (some ⟨c, _, none⟩), ps => (b, c) :: ps
  | _, .slice (some ⟨b, _, none⟩) _ _, .slice (some ⟨c, _, none⟩) _ _, ps => (b, c) :: ps
  | n + 1, .func (.func _) a b, .func (.func _) c d, ps => matL (matV n) b.toList d.toList (matL (matV n) a.toList c.toList ps)
  | n + 1, .iface _ a, .iface _ b, ps => matV n a b ps
  | n + 1, .agg a, .agg b, ps => matL (matV n) a.toList b.toList ps
  | _, _, _, ps => ps
def nmOf (ps : List (Nat × Nat)) (b : Nat) : Nat := List.rec (motive := fun _ => Nat) 0 (fun x _ ih => bif Nat.beq x.1 b then x.2 else ih) ps
def matH (H : Hp) : List (Nat × List Value) → List (Nat × Nat) → List (Nat × Nat)
  | [], ps => ps
  | (b, cs) :: r, ps => match H.get (nmOf ps b) with
    | some (.cells ds _) => matH H r (matL (matV 5) cs ds ps)
    | _ => matH H r ps
def tidyM (m : Memo) : Bool := smallL (small m.nx 5) m.args && below m.nx m.V && smallH m.nx m.V && small m.nx' 5 m.v && inNew m.nx m.nx' m.new && smallH m.nx' m.new
structure Memo.OkR (P : Program) (m : Memo) : Prop where
  ok : m.Ok P
  tidy : tidyM m = true
def useR (m : Memo) (args : List Value) (H : Hp) (nx : Nat) : Option (Value × Hp × Nat) :=
  match matH H m.V (matL (matV 5) m.args args []) with
  | ps => if leqBy (veq 5) (m.args.map (renV (shift (nmOf ps) m.nx nx) 5)) args && holdsV H (renH (shift (nmOf ps) m.nx nx) m.V) && below nx (renH (shift (nmOf ps) m.nx nx) m.V) then
      some (renV (shift (nmOf ps) m.nx nx) 5 m.v, rwHp (renH (shift (nmOf ps) m.nx nx) m.new) ++ H, nx + (m.nx' - m.nx)) else none
theorem inNew_ren {ρ : Nat → Nat} {n n' nx : Nat} : ∀ {N : List (Nat × List Value)}, inNew n n' N = true → inNew nx (nx + (n' - n)) (renH (shift ρ n nx) N) = true
  | [], _ => rfl
  | (b, cs) :: r, h => by
    simp only [inNew, Bool.and_eq_true, decide_eq_true_eq] at h
    have hs : shift ρ n nx b = nx + (b - n) := by unfold shift; rw [if_neg (by omega)]
    simp only [renH, inNew, Bool.and_eq_true, decide_eq_true_eq, hs]
    exact ⟨⟨by omega, by omega⟩, inNew_ren h.2⟩
theorem holdsV_mem {H : Hp} {b : Nat} {cs : List Value} : ∀ {V : List (Nat × List Value)}, holdsV H V = true → (b, cs) ∈ V → ∃ ro, H.get b = some (.cells cs ro)
  | [], _, h => by cases h
  | (c, ds) :: r, hh, h => by
    simp only [holdsV, Bool.and_eq_true] at hh
    rcases List.mem_cons.1 h with h | h
    · cases h
      have h1 := hh.1
      split at h1
      · rename_i ds ro hg
        exact ⟨ro, by rw [hg, leqBy_eq (veq_eq 4) h1]⟩
      · cases h1
    · exact holdsV_mem hh.2 h
theorem roHp_mem {b : Nat} {k : Blk} : ∀ {V : List (Nat × List Value)}, (roHp V).get b = some k → ∃ cs, (b, cs) ∈ V ∧ k = .cells cs true
  | [], h => by simp [roHp, Hp.get_nil] at h
  | (c, cs) :: r, h => by
    by_cases hc : c = b
    · subst hc
      simp [roHp, Hp.get_cons] at h
      exact ⟨cs, List.mem_cons_self, h.symm⟩
    · simp [roHp, Hp.get_cons, hc] at h
      obtain ⟨ds, h1, h2⟩ := roHp_mem h
      exact ⟨ds, List.mem_cons_of_mem _ h1, h2⟩
theorem roHp_some {b : Nat} {cs : List Value} : ∀ {V : List (Nat × List Value)}, (b, cs) ∈ V → ∃ ds, (roHp V).get b = some (.cells ds true)
  | [], h => by cases h
  | (c, ds) :: r, h => by
    by_cases hc : c = b
    · subst hc
      exact ⟨ds, by simp [roHp, Hp.get_cons]⟩
    · rcases List.mem_cons.1 h with h | h
      · cases h; exact absurd rfl hc
      · obtain ⟨es, he⟩ := roHp_some h
        exact ⟨es, by simp [roHp, Hp.get_cons, hc, he]⟩
theorem renH_mem {ρ : Nat → Nat} {b : Nat} {cs : List Value} : ∀ {V : List (Nat × List Value)}, (b, cs) ∈ V → (ρ b, cs.map (renV ρ 5)) ∈ renH ρ V
  | [], h => by cases h
  | (c, ds) :: r, h => by
    rcases List.mem_cons.1 h with h | h
    · cases h; exact List.mem_cons_self
    · exact List.mem_cons_of_mem _ (renH_mem h)
theorem below_mem {n b : Nat} {cs : List Value} : ∀ {V : List (Nat × List Value)}, below n V = true → (b, cs) ∈ V → b < n
  | [], _, h => by cases h
  | (c, ds) :: r, hb, h => by
    simp only [below, Bool.and_eq_true, decide_eq_true_eq] at hb
    rcases List.mem_cons.1 h with h | h
    · cases h; exact hb.1
    · exact below_mem hb.2 h
theorem useR_ok {m : Memo} (hm : m.OkR P) {args : List Value} {nx : Nat} {v : Value} {H' : Hp} {nx' : Nat} (h : useR m args H nx = some (v, H', nx')) :
    (∃ fn, P.funcs[m.f]? = some fn ∧ fn.body.isSome = true) ∧ CallOk P m.f args H nx v H' nx' := by
  unfold useR at h
  dsimp only at h
  generalize matH H m.V (matL (matV 5) m.args args []) = ps at h
  split at h
  case isFalse => cases h
  rename_i hc
  cases h
  simp only [Bool.and_eq_true] at hc
  obtain ⟨⟨h1, h2⟩, h3⟩ := hc
  have h1 := leqBy_eq (veq_eq 5) h1
  obtain ⟨hok, ht⟩ := hm
  unfold tidyM at ht
  simp only [Bool.and_eq_true] at ht
  obtain ⟨⟨⟨⟨⟨t1, t2⟩, t3⟩, t4⟩, t5⟩, t6⟩ := ht
  refine ⟨hok.1, ?_⟩
  have hren := call_ren hok.2 (V' := renH (shift (nmOf ps) m.nx nx) m.V) (nmOf ps) nx t1 t2 t3 t4 t5 t6 (fun b cs hb => ?_)
  · have hm2 : Memo.Ok P ⟨m.f, nx, m.args.map (renV (shift (nmOf ps) m.nx nx) 5), renH (shift (nmOf ps) m.nx nx) m.V, renV (shift (nmOf ps) m.nx nx) 5 m.v, renH (shift (nmOf ps) m.nx nx) m.new, nx + (m.nx' - m.nx)⟩ := ⟨hok.1, hren⟩
    have := memo_use (H := H) hm2 (fun b k hb => holdsV_get h2 hb) (inNew_ren t5) h3
    rw [h1] at this
    exact this
  · obtain ⟨cs', hmem, he⟩ := roHp_mem hb
    cases he
    have hbn : b < m.nx := below_mem t2 hmem
    have hsh : shift (nmOf ps) m.nx nx b = nmOf ps b := by unfold shift; rw [if_pos hbn]
    have hm2 := renH_mem (ρ := shift (nmOf ps) m.nx nx) hmem
    rw [hsh] at hm2
    obtain ⟨ds, hds⟩ := roHp_some hm2
    obtain ⟨ds2, hm3, he⟩ := roHp_mem hds
    cases he
    obtain ⟨ro1, g1⟩ := holdsV_mem h2 hm2
    obtain ⟨ro2, g2⟩ := holdsV_mem h2 hm3
    rw [g1] at g2
    cases g2
    refine ⟨_, hds, fun j u hu => ?_⟩
    rw [List.getElem?_map, hu]; rfl
def lookR : List Memo → FuncId → List Value → Hp → Nat → Option (Value × Hp × Nat)
  | [], _, _, _, _ => none
  | m :: ms, f, args, H, nx => bif Nat.beq m.f f then (match useR m args H nx with
    | some r => some r
    | none => lookR ms f args H nx) else lookR ms f args H nx
theorem lookR_ok : ∀ {ms : List Memo}, (∀ m ∈ ms, m.OkR P) → ∀ {f : FuncId} {args : List Value} {H : Hp} {nx : Nat} {v : Value} {H' : Hp} {nx' : Nat}, lookR ms f args H nx = some (v, H', nx') →
    (∃ fn, P.funcs[f]? = some fn ∧ fn.body.isSome = true) ∧ CallOk P f args H nx v H' nx'
  | [], _, _, _, _, _, _, _, _, h => by cases h
  | m :: ms, hm, f, args, H, nx, v, H', nx', h => by
    simp only [lookR] at h
    cases hf : Nat.beq m.f f with
    | false => rw [hf] at h; exact lookR_ok (fun m hm' => hm m (by simp [hm'])) h
    | true =>
      rw [hf] at h
      simp only [cond_true] at h
      split at h
      · rename_i r hr
        cases h
        have := Nat.eq_of_beq_eq_true hf
        subst this
        exact useR_ok (hm m (by simp)) hr
      · exact lookR_ok (fun m hm' => hm m (by simp [hm'])) h
/-- The evaluator with calls known at names of their own. -/
def evMR (P : Program) (ms : List Memo) : Nat → EvA
  | 0 => ⟨fun _ _ _ _ => none, fun _ _ _ _ _ _ _ => none, fun _ _ _ _ _ _ _ => none, fun _ _ _ _ _ _ _ => none⟩
  | n + 1 =>
    { evStepA P (evMR P ms n) with call := fun f args H nx => match lookR ms f args H nx with
      | some r => some r
      | none => evalCallA P (evMR P ms n) f args H nx }
theorem evMR_ok (hs : NoSpecial P) {ms : List Memo} (hms : ∀ m ∈ ms, m.OkR P) : ∀ n, (evMR P ms n).Ok P
  | 0 => ⟨(fun h => by cases h), (fun h => by cases h), (fun h => by cases h), (fun h => by cases h), (fun h => by cases h)⟩
  | n + 1 => by
    have hE := evStepA_ok (evMR_ok hs hms n) hs
    refine ⟨fun {f args H nx v H' nx'} h => ?_, fun {f args H nx v H' nx'} h => ?_, fun h => hE.code h, fun h => hE.loop h, fun h => hE.scp h⟩
    · simp only [evMR] at h
      split at h
      · rename_i r hr; cases h; exact (lookR_ok hms hr).2
      · exact hE.call h
    · simp only [evMR] at h
      split at h
      · rename_i r hr; cases h; exact (lookR_ok hms hr).1
      · exact hE.named h
def saysR (P : Program) (ms : List Memo) (n : Nat) (m : Memo) : Bool := tidyM m && memoSays (evMR P ms n).toEv m
theorem memoR_of {n : Nat} {ms : List Memo} {m : Memo} (hs : NoSpecial P) (hms : ∀ m ∈ ms, m.OkR P) (h : saysR P ms n m = true) : m.OkR P := by
  unfold saysR at h
  simp only [Bool.and_eq_true] at h
  exact ⟨memo_of (evMR_ok hs hms n).toEv h.2, h.1⟩
theorem memsR_nil : ∀ x ∈ ([] : List Memo), x.OkR P := fun _ h => by cases h
theorem memsR_cons {m : Memo} {ms : List Memo} (h : m.OkR P) (hs : ∀ x ∈ ms, x.OkR P) : ∀ x ∈ m :: ms, x.OkR P := by
  intro x hx
  rcases List.mem_cons.1 hx with rfl | hx
  · exact h
  · exact hs x hx
def saysTrueR (P : Program) (ms : List Memo) (n : Nat) (f : FuncId) : Bool :=
  match (evMR P ms n).call f [] [] 0 with
  | some (.bool true, _, _) => true
  | _ => false
theorem closed_ofR {n : Nat} {f : FuncId} {ms : List Memo} (hs : NoSpecial P) (hms : ∀ m ∈ ms, m.OkR P) (h : saysTrueR P ms n f = true) : ∃ H' nx', CallOk P f [] [] 0 (.bool true) H' nx' := by
  unfold saysTrueR at h
  split at h
  · rename_i H' nx' he; exact ⟨H', nx', (evMR_ok hs hms n).call he⟩
  · cases h
end Go.En
