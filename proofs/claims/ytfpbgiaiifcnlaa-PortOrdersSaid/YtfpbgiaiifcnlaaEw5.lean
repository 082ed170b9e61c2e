/- Parts of a proof, joined: W, X, Y, Z, ZB, ZC, ZD, ZE, ZF, R0, R1, RE, RP. -/
import Derived.ChangeArms
import Derived.ChangeSlices
import Derived.DataReads
import Derived.OpenShut
import Derived.Test.YtfpbgiaiifcnlaaEw4
/- The symbolic engine, part W: a loop's state folded: the places of our own arrays. -/
noncomputable section
namespace Go.Fz.Sy
set_option linter.unusedVariables false
set_option linter.unusedSimpArgs false
set_option linter.unusedSectionVars false
variable {P : Program} {φ : Ren} {K : Nat → Prop} {w : World} {R : Type}

def nmD : List DPl → List Nat
  | [] => []
  | .tmp _ _ :: r => nmD r
  | .blk b _ :: r => b :: nmD r
  | .frz _ _ :: r => nmD r
def nmK : List CK → List Nat
  | [] => []
  | .d _ :: r => nmK r
  | .o c _ _ :: r => c :: nmK r
def nmO : List OPl → List Nat
  | [] => []
  | .otmp _ c _ _ :: r => c :: nmO r
  | .sblk b ks :: r => b :: (nmK ks ++ nmO r)
  | .arr b _ _ :: r => b :: nmO r
  | .lp l _ :: r => l :: nmO r
  | .dfd b :: r => b :: nmO r
  | .mpl b _ _ _ :: r => b :: nmO r
theorem hpD_none {n : Nat} : ∀ {dl : List DPl} {x : DS dl}, n ∉ nmD dl → sget (hpD dl x) n = none
  | [], x, h => rfl
  | .tmp _ _ :: r, x, h => hpD_none (dl := r) (x := x.2) h
  | .blk b t :: r, x, h => by
    simp only [nmD, List.mem_cons, not_or] at h
    simp only [hpD]
    rw [sget_cons, if_neg (Ne.symm h.1)]
    exact hpD_none h.2
  | .frz b ks :: r, x, h => hpD_none (dl := r) (x := x.2) h
theorem arrsK_none {n : Nat} : ∀ {ks : List CK} {x : CS ks}, n ∉ nmK ks → sget (arrsK ks x) n = none
  | [], x, h => rfl
  | .d t :: r, x, h => arrsK_none (ks := r) (x := x.2) h
  | .o c nn t :: r, x, h => by
    simp only [nmK, List.mem_cons, not_or] at h
    simp only [arrsK]
    rw [sget_cons, if_neg (Ne.symm h.1)]
    exact arrsK_none h.2
theorem hpO_none {n : Nat} : ∀ {ol : List OPl} {vs : List LSt} {y : OS ol}, n ∉ nmO ol → sget (hpO ol vs y) n = none
  | [], vs, y, h => rfl
  | .otmp _ c nn t :: r, vs, y, h => by
    simp only [nmO, List.mem_cons, not_or] at h
    simp only [hpO]
    rw [sget_cons, if_neg (Ne.symm h.1)]
    exact hpO_none h.2
  | .sblk b ks :: r, vs, y, h => by
    simp only [nmO, List.mem_cons, List.mem_append, not_or] at h
    simp only [hpO]
    rw [sget_cons, if_neg (Ne.symm h.1), sget_append, arrsK_none h.2.1]
    exact hpO_none h.2.2
  | .arr b nn t :: r, vs, y, h => by
    simp only [nmO, List.mem_cons, not_or] at h
    simp only [hpO]
    rw [sget_cons, if_neg (Ne.symm h.1)]
    exact hpO_none h.2
  | .lp b L :: r, vs, y, h => by
    simp only [nmO, List.mem_cons, not_or] at h
    simp only [hpO]
    rw [sget_cons, if_neg (Ne.symm h.1)]
    exact hpO_none h.2
  | .dfd b :: r, vs, y, h => by
    simp only [nmO, List.mem_cons, not_or] at h
    simp only [hpO]
    rw [sget_cons, if_neg (Ne.symm h.1)]
    exact hpO_none h.2
  | .mpl b _ _ _ :: r, vs, y, h => by
    simp only [nmO, List.mem_cons, not_or] at h
    simp only [hpO]
    rw [sget_cons, if_neg (Ne.symm h.1)]
    exact hpO_none h.2
/-- The arrays stand where they should. -/
def OwnK (HT : SH) : (ks : List CK) → CS ks → Prop
  | [], _ => True
  | .d _ :: r, x => OwnK HT r x.2
  | .o c nn t :: r, x => sget HT c = some (.arr nn t x.1) ∧ OwnK HT r x.2
theorem ownK_of : ∀ (ks : List CK) (x : CS ks) (pre post : SH), (nmK ks).Nodup → (∀ n ∈ nmK ks, sget pre n = none) → OwnK (pre ++ (arrsK ks x ++ post)) ks x
  | [], x, pre, post, hn, hp => trivial
  | .d t :: r, x, pre, post, hn, hp => ownK_of r x.2 pre post hn hp
  | .o c nn t :: r, x, pre, post, hn, hp => by
    simp only [nmK, List.nodup_cons] at hn
    simp only [nmK, List.mem_cons, forall_eq_or_imp] at hp
    refine ⟨?_, ?_⟩
    · simp only [arrsK]
      rw [sget_append, hp.1]
      simp [sget_cons]
    · have := ownK_of r x.2 (pre ++ [(c, .arr nn t x.1)]) post hn.2 (fun n hm => by
        rw [sget_append, hp.2 n hm]
        show sget [(c, _)] n = none
        rw [sget_cons, if_neg (fun e => hn.1 (by rw [e]; exact hm))]; rfl)
      have e : pre ++ [(c, SB.arr nn t x.1)] ++ (arrsK r x.2 ++ post) = pre ++ (arrsK (.o c nn t :: r) x ++ post) := by simp [arrsK]
      rw [e] at this; exact this
def OwnReg (HT : SH) : (ol : List OPl) → OS ol → Prop
  | [], _ => True
  | .otmp _ c nn t :: r, y => sget HT c = some (.arr nn t y.1) ∧ OwnReg HT r y.2
  | .sblk _ ks :: r, y => OwnK HT ks y.1 ∧ OwnReg HT r y.2
  | .arr b nn t :: r, y => sget HT b = some (.arr nn t y.1) ∧ OwnReg HT r y.2
  | .lp _ _ :: r, y => OwnReg HT r y.2
  | .dfd _ :: r, y => OwnReg HT r y.2
  | .mpl _ _ _ _ :: r, y => OwnReg HT r y.2
theorem ownReg_of : ∀ (ol : List OPl) (vs : List LSt) (y : OS ol) (pre post : SH), (nmO ol).Nodup → (∀ n ∈ nmO ol, sget pre n = none) → OwnReg (pre ++ (hpO ol vs y ++ post)) ol y
  | [], vs, y, pre, post, hn, hp => trivial
  | .otmp i c nn t :: r, vs, y, pre, post, hn, hp => by
    simp only [nmO, List.nodup_cons] at hn
    simp only [nmO, List.mem_cons, forall_eq_or_imp] at hp
    refine ⟨?_, ?_⟩
    · simp only [hpO]
      rw [sget_append, hp.1]
      simp [sget_cons]
    · have := ownReg_of r vs y.2 (pre ++ [(c, .arr nn t y.1)]) post hn.2 (fun n hm => by
        rw [sget_append, hp.2 n hm]
        show sget [(c, _)] n = none
        rw [sget_cons, if_neg (fun e => hn.1 (by rw [e]; exact hm))]; rfl)
      have e : pre ++ [(c, SB.arr nn t y.1)] ++ (hpO r vs y.2 ++ post) = pre ++ (hpO (.otmp i c nn t :: r) vs y ++ post) := by simp [hpO]
      rw [e] at this; exact this
  | .sblk b ks :: r, vs, y, pre, post, hn, hp => by
    simp only [nmO, List.nodup_cons, List.mem_append, not_or, List.nodup_append] at hn
    simp only [nmO, List.mem_cons, List.mem_append, forall_eq_or_imp] at hp
    refine ⟨?_, ?_⟩
    · have := ownK_of ks y.1 (pre ++ [(b, .vars (encK ks y.1))]) (hpO r vs y.2 ++ post) hn.2.1 (fun n hm => by
        rw [sget_append, hp.2 n (.inl hm)]
        show sget [(b, _)] n = none
        rw [sget_cons, if_neg (fun e => hn.1.1 (by rw [e]; exact hm))]; rfl)
      have e : (pre ++ [(b, SB.vars (encK ks y.1))]) ++ (arrsK ks y.1 ++ (hpO r vs y.2 ++ post)) = pre ++ (hpO (.sblk b ks :: r) vs y ++ post) := by
        simp [hpO]
      rw [e] at this; exact this
    · have := ownReg_of r vs y.2 (pre ++ (b, .vars (encK ks y.1)) :: arrsK ks y.1) post hn.2.2.1 (fun n hm => by
        rw [sget_append, hp.2 n (.inr hm)]
        show sget ((b, _) :: _) n = none
        rw [sget_cons, if_neg (fun e => hn.1.2 (by rw [e]; exact hm))]
        exact arrsK_none (fun h => hn.2.2.2 n h n hm rfl))
      have e : (pre ++ (b, .vars (encK ks y.1)) :: arrsK ks y.1) ++ (hpO r vs y.2 ++ post) = pre ++ (hpO (.sblk b ks :: r) vs y ++ post) := by
        simp [hpO]
      rw [e] at this; exact this
  | .arr b nn t :: r, vs, y, pre, post, hn, hp => by
    simp only [nmO, List.nodup_cons] at hn
    simp only [nmO, List.mem_cons, forall_eq_or_imp] at hp
    refine ⟨?_, ?_⟩
    · simp only [hpO]
      rw [sget_append, hp.1]
      simp [sget_cons]
    · have := ownReg_of r vs y.2 (pre ++ [(b, .arr nn t y.1)]) post hn.2 (fun n hm => by
        rw [sget_append, hp.2 n hm]
        show sget [(b, _)] n = none
        rw [sget_cons, if_neg (fun e => hn.1 (by rw [e]; exact hm))]; rfl)
      have e : (pre ++ [(b, SB.arr nn t y.1)]) ++ (hpO r vs y.2 ++ post) = pre ++ (hpO (.arr b nn t :: r) vs y ++ post) := by simp [hpO]
      rw [e] at this; exact this
  | .lp b L :: r, vs, y, pre, post, hn, hp => by
    simp only [nmO, List.nodup_cons] at hn
    simp only [nmO, List.mem_cons, forall_eq_or_imp] at hp
    have := ownReg_of r vs.tail y.2 (pre ++ [(b, .loop (stO L vs))]) post hn.2 (fun n hm => by
        rw [sget_append, hp.2 n hm]
        show sget [(b, _)] n = none
        rw [sget_cons, if_neg (fun e => hn.1 (by rw [e]; exact hm))]; rfl)
    have e : (pre ++ [(b, SB.loop (stO L vs))]) ++ (hpO r vs.tail y.2 ++ post) = pre ++ (hpO (.lp b L :: r) vs y ++ post) := by simp [hpO]
    rw [e] at this; exact this
  | .dfd b :: r, vs, y, pre, post, hn, hp => by
    simp only [nmO, List.nodup_cons] at hn
    simp only [nmO, List.mem_cons, forall_eq_or_imp] at hp
    have := ownReg_of r vs y.2 (pre ++ [(b, .defd)]) post hn.2 (fun n hm => by
        rw [sget_append, hp.2 n hm]
        show sget [(b, _)] n = none
        rw [sget_cons, if_neg (fun e => hn.1 (by rw [e]; exact hm))]; rfl)
    have e : (pre ++ [(b, SB.defd)]) ++ (hpO r vs y.2 ++ post) = pre ++ (hpO (.dfd b :: r) vs y ++ post) := by simp [hpO]
    rw [e] at this; exact this
  | .mpl b k ag t :: r, vs, y, pre, post, hn, hp => by
    simp only [nmO, List.nodup_cons] at hn
    simp only [nmO, List.mem_cons, forall_eq_or_imp] at hp
    have := ownReg_of r vs y.2 (pre ++ [(b, .mpb k ag t y.1)]) post hn.2 (fun n hm => by
        rw [sget_append, hp.2 n hm]
        show sget [(b, _)] n = none
        rw [sget_cons, if_neg (fun e => hn.1 (by rw [e]; exact hm))]; rfl)
    have e : (pre ++ [(b, SB.mpb k ag t y.1)]) ++ (hpO r vs y.2 ++ post) = pre ++ (hpO (.mpl b k ag t :: r) vs y ++ post) := by simp [hpO]
    rw [e] at this; exact this

theorem slice_ren2 {φ2 φ3 : Ren} {b b' o n c : Nat} (h : φ3 b = φ2 b') {v' : Value} (hv : VRel φ2 (.slice (some ⟨b', o, none⟩) n c) v') : VRel φ3 (.slice (some ⟨b, o, none⟩) n c) v' := by
  cases hv with
  | sl _ _ _ _ L hL hc => exact .sl _ _ _ _ L (by rw [h]; exact hL) hc
  | slO _ _ _ _ c' L hL hc hn hl => exact .slO _ _ _ _ c' L (by rw [h]; exact hL) hc hn hl
  | slE _ _ _ a' L hL hc => exact .slE _ _ _ a' L (by rw [h]; exact hL) hc
/-- An own slice under its new name. -/
theorem rdO_rel {φ2 φ3 : Ren} {ν : Nat → Bool} {nx c : Nat} {nn : Bool} {t : Ty} {H HT : SH} {u : SV} {x : List (T t)} {s : List (Nat × Nat)} (h : rdO nn t H c u = some (x, s)) (hv : VN ν nx H) (hv3 : ∀ b, notNil (sget HT b) = true → ν b = false)
    (hs : ∀ p ∈ s, φ3 p.1 = φ2 p.2) (hT : sget HT c = some (.arr nn t x)) {v' : Value} (hr : VRel φ2 (den (rho ν H) u) v') : VRel φ3 (den (rho ν HT) (.own c)) v' := by
  unfold rdO at h
  simp only [den]
  rw [rho_of ν (nn := nn) (t := t) (l := x) (by rw [hT]; rfl)]
  split at h
  · cases nn with
    | true => cases h
    | false => cases h; simp only [den] at hr; cases hr; exact .slN _ _
  · rename_i c'
    split at h
    · rename_i nn' t' l hc'
      split at h
      · rename_i ht
        subst ht
        have h6 := cond_some h
        clear h
        obtain ⟨hq, h⟩ := h6
        have := bolQ_eq hq
        subst this
        cases h
        simp only [den] at hr
        rw [rho_of ν (nn := nn') (t := t') (l := l) (by rw [hc']; rfl)] at hr
        have he : castL rfl l = l := rfl
        rw [he]
        cases hn : nilA nn' l with
        | true => rw [hn] at hr; cases hr; exact .slN _ _
        | false => rw [hn] at hr; exact slice_ren2 (hs (c, c') (by simp)) hr
      · cases h
    · cases h
  · cases h
/-- A block's cells under their new names. -/
theorem rdK_rel {φ2 φ3 : Ren} {ν : Nat → Bool} {nx : Nat} {H HT : SH} (g : Good φ2 (denH ν H) K w) (hv : VN ν nx H) (hv3 : ∀ b, notNil (sget HT b) = true → ν b = false) (hF : ∀ b L, φ2 (FZ + b) = some L → φ3 (FZ + b) = some L) :
    ∀ {ks : List CK} {us : List SV} {x : CS ks} {s : List (Nat × Nat)}, rdK ks us H = some (x, s) → (∀ p ∈ s, φ3 p.1 = φ2 p.2) → OwnK HT ks x → ∀ {vs : List Value}, LRel φ2 (denL (rho ν H) us) vs → LRel φ3 (denL (rho ν HT) (encK ks x)) vs
  | [], [], x, s, h, hs, hT, vs, hr => by
    match vs, hr with
    | [], _ => trivial
    | _ :: _, hr => simp [denL, LRel] at hr
  | .d t :: r, us, x, s, h, hs, hT, vs, hr => by
    simp only [rdK] at h
    split at h
    case h_2 => cases h
    rename_i z us1 h1
    split at h
    case h_2 => cases h
    rename_i y s' h2
    cases h
    obtain ⟨cs, rfl, _, hc⟩ := cvC_ok t (pcC_cv t h1)
    rw [denL_map, List.map_append] at hr
    have hlen := hr.length
    obtain ⟨u1, u2, rfl, hl1⟩ : ∃ u1 u2, vs = u1 ++ u2 ∧ u1.length = cs.length := ⟨vs.take cs.length, vs.drop cs.length, by simp, by simp at hlen ⊢; omega⟩
    have hsplit : LRel φ2 (cs.map (den (rho ν H))) u1 ∧ LRel φ2 (us1.map (den (rho ν H))) u2 := by
      have h3 := hr.take (cs.length)
      have h4 := hr.drop (cs.length)
      rw [List.take_append_of_le_length (by simp), List.take_append_of_le_length (by omega), List.take_of_length_le (by simp), List.take_of_length_le (by omega)] at h3
      rw [List.drop_append_of_le_length (by simp), List.drop_append_of_le_length (by omega), List.drop_eq_nil_of_le (by simp), List.drop_eq_nil_of_le (by omega)] at h4
      exact ⟨h3, h4⟩
    simp only [encK]
    rw [denL_map, List.map_append, encL_den]
    refine LRel.append ?_ ?_
    · exact lrel_facts hF (hc ν H (GLe.refl _) φ2 K w nx u1 g hv (by rw [denL_map]; exact hsplit.1))
    · have := rdK_rel g hv hv3 hF h2 (fun p hp => hs p hp) hT (vs := u2) (by rw [denL_map]; exact hsplit.2)
      rw [denL_map] at this; exact this
  | .o c nn t :: r, u :: us, x, s, h, hs, hT, vs, hr => by
    simp only [rdK] at h
    split at h
    case h_2 => cases h
    rename_i z s1 h1
    split at h
    case h_2 => cases h
    rename_i y s' h2
    cases h
    match vs, hr with
    | [], hr => simp [denL, LRel] at hr
    | v :: vs, hr =>
      simp only [denL, LRel, encK] at hr ⊢
      exact ⟨rdO_rel h1 hv hv3 (fun p hp => hs p (by simp [hp])) hT.1 hr.1, rdK_rel g hv hv3 hF h2 (fun p hp => hs p (by simp [hp])) hT.2 hr.2⟩
  | [], _ :: _, _, _, h, _, _, _, _ => by simp [rdK] at h
  | .o _ _ _ :: _, [], _, _, h, _, _, _, _ => by simp [rdK] at h
theorem rdO_not {nn : Bool} {t : Ty} {H : SH} {c : Nat} {x : List (T t) × List (Nat × Nat)} (h : rdO nn t H c .junk = some x) : False := by simp [rdO] at h
theorem bkO_tmps {φ2 φ3 : Ren} {ν : Nat → Bool} {H HT : SH} {nx : Nat} {ts : Array Value} (hv : VN ν nx H) (hv3 : ∀ b, notNil (sget HT b) = true → ν b = false) {tm : List SV} (ht : TRel φ2 (denL (rho ν H) tm) ts) :
    ∀ {ol : List OPl} {vs : List LSt} {y : OS ol} {σ : List (Nat × Nat)}, bkO ol vs tm H = some (y, σ) → OwnReg HT ol y → (∀ p ∈ σ, φ3 p.1 = φ2 p.2) → ∀ {tm0 : List SV}, TRel φ3 (denL (rho ν HT) tm0) ts → TRel φ3 (denL (rho ν HT) (tmO ol y tm0)) ts
  | [], vs, y, σ, h, hO, hσ, tm0, h0 => by simpa only [tmO] using h0
  | .otmp i c nn t :: r, vs, y, σ, h, hO, hσ, tm0, h0 => by
    simp only [bkO] at h
    split at h
    case h_2 => cases h
    rename_i u hu
    split at h
    case h_2 => cases h
    rename_i x s h1
    split at h
    case h_2 => cases h
    rename_i y' σ' h2
    cases h
    simp only [tmO]
    refine bkO_tmps hv hv3 ht h2 hO.2 (fun p hp => hσ p (by simp [hp])) ?_
    rw [gl_eq] at hu
    rcases ht.2 i (den (rho ν H) u) (by rw [denL_get, hu]; rfl) with hq | ⟨v', q1, q2⟩
    · have := den_isjunk hq; subst this; exact (rdO_not h1).elim
    · rw [lsS_eq]
      have : denL (rho ν HT) (tm0.set i (.own c)) = (denL (rho ν HT) tm0).set i (den (rho ν HT) (.own c)) := by simp [denL_map, List.map_set]
      rw [this]
      exact trel_at h0 q1 (rdO_rel h1 hv hv3 (fun p hp => hσ p (by simp [hp])) hO.1 q2)
  | .sblk b ks :: r, vs, y, σ, h, hO, hσ, tm0, h0 => by
    simp only [bkO] at h
    split at h
    case h_2 => cases h
    split at h
    case h_2 => cases h
    split at h
    case h_2 => cases h
    rename_i h2
    cases h
    simp only [tmO]
    exact bkO_tmps hv hv3 ht h2 hO.2 (fun p hp => hσ p (by simp [hp])) h0
  | .arr b nn t :: r, vs, y, σ, h, hO, hσ, tm0, h0 => by
    simp only [bkO] at h
    split at h
    case h_2 => cases h
    split at h
    case isFalse => cases h
    obtain ⟨_, h⟩ := cond_some h
    split at h
    case h_2 => cases h
    rename_i h2
    cases h
    simp only [tmO]
    exact bkO_tmps hv hv3 ht h2 hO.2 (fun p hp => hσ p (by simp [hp])) h0
  | .lp b L :: r, vs, y, σ, h, hO, hσ, tm0, h0 => by
    simp only [bkO] at h
    split at h
    case h_2 => cases h
    have h6 := cond_some h
    clear h
    obtain ⟨hq, h⟩ := h6
    split at h
    case h_2 => cases h
    rename_i h2
    cases h
    simp only [tmO]
    exact bkO_tmps hv hv3 ht h2 hO (fun p hp => hσ p (by simp [hp])) h0
  | .dfd b :: r, vs, y, σ, h, hO, hσ, tm0, h0 => by
    simp only [bkO] at h
    split at h
    case h_2 => cases h
    split at h
    case h_2 => cases h
    rename_i h2
    cases h
    simp only [tmO]
    exact bkO_tmps hv hv3 ht h2 hO (fun p hp => hσ p (by simp [hp])) h0
  | .mpl b k ag t :: r, vs, y, σ, h, hO, hσ, tm0, h0 => by
    simp only [bkO] at h
    split at h
    case h_2 => cases h
    split at h
    case isFalse => cases h
    obtain ⟨_, h⟩ := cond_some h
    split at h
    case h_2 => cases h
    rename_i h2
    cases h
    simp only [tmO]
    exact bkO_tmps hv hv3 ht h2 hO (fun p hp => hσ p (by simp [hp])) h0
/-- The blocks. -/
inductive OCase (H HT : SH) (ol : List OPl) (σ : List (Nat × Nat)) (b s : Nat) : SB → Prop
  | arr (nn : Bool) (t : Ty) (l : List (T t)) (h : sget H s = some (.arr nn t l)) : OCase H HT ol σ b s (.arr nn t l)
  | own (ks : List CK) (us : List SV) (x : CS ks) (s' : List (Nat × Nat)) (hs : s = b) (h : sget H b = some (.vars us)) (hr : rdK ks us H = some (x, s')) (hσ : ∀ p ∈ s', p ∈ σ) (hT : OwnK HT ks x) : OCase H HT ol σ b s (.vars (encK ks x))
  | lp (L L' : SL) (vs : List LSt) (hs : s = b) (hL : OPl.lp b L ∈ ol) (h : sget H b = some (.loop L')) (hq : stQ L' vs = true) : OCase H HT ol σ b s (.loop (stO L vs))
  | dfd (hs : s = b) (h : sget H b = some .defd) : OCase H HT ol σ b s .defd
  | mp (k : IntKind) (ag : Bool) (t : Ty) (l : List (Int × T t)) (hs : s = b) (h : sget H b = some (.mpb k ag t l)) : OCase H HT ol σ b s (.mpb k ag t l)
theorem OCase.more {H HT : SH} {ol : List OPl} {p : OPl} {σ σ' : List (Nat × Nat)} (hσ : ∀ q ∈ σ, q ∈ σ') {b s : Nat} {k : SB} (h : OCase H HT ol σ b s k) : OCase H HT (p :: ol) σ' b s k := by
  cases h with
  | arr nn t l h => exact .arr nn t l h
  | own ks us x s' hs h hr h1 hT => exact .own ks us x s' hs h hr (fun q hq => hσ q (h1 q hq)) hT
  | lp L L' vs hs hL h hq => exact .lp L L' vs hs (List.mem_cons_of_mem _ hL) h hq
  | dfd hs h => exact .dfd hs h
  | mp k ag t l hs h => exact .mp k ag t l hs h
theorem rdO_some {nn : Bool} {t : Ty} {H : SH} {c : Nat} {u : SV} {l : List (T t)} {s : List (Nat × Nat)} (h : rdO nn t H c u = some (l, s)) : (nn = false ∧ l = []) ∨ ∃ c', s = [(c, c')] ∧ sget H c' = some (.arr nn t l) := by
  unfold rdO at h
  split at h
  · cases nn with
    | true => cases h
    | false => cases h; exact .inl ⟨rfl, rfl⟩
  · rename_i c'
    split at h
    · rename_i nn' t' l' hc'
      split at h
      · rename_i ht
        subst ht
        have h6 := cond_some h
        clear h
        obtain ⟨hq, h⟩ := h6
        have := bolQ_eq hq
        subst this
        cases h
        exact .inr ⟨c', rfl, hc'⟩
      · cases h
    · cases h
  · cases h
/-- A nil array. -/
def NilB (k : SB) : Prop := ∃ t, k = .arr false t []
theorem rdK_arr {H : SH} : ∀ {ks : List CK} {us : List SV} {x : CS ks} {s : List (Nat × Nat)}, rdK ks us H = some (x, s) → ∀ {b : Nat} {k : SB}, sget (arrsK ks x) b = some k → NilB k ∨ ∃ s', (b, s') ∈ s ∧ ∃ (nn : Bool) (t : Ty) (l : List (T t)), k = .arr nn t l ∧ sget H s' = some (.arr nn t l)
  | [], us, x, s, h, b, k, hk => by simp [arrsK, sget_nil] at hk
  | .d t :: r, us, x, s, h, b, k, hk => by
    simp only [rdK] at h
    split at h
    case h_2 => cases h
    split at h
    case h_2 => cases h
    rename_i y s' h2
    cases h
    exact rdK_arr h2 hk
  | .o c nn t :: r, u :: us, x, s, h, b, k, hk => by
    simp only [rdK] at h
    split at h
    case h_2 => cases h
    rename_i z s1 h1
    split at h
    case h_2 => cases h
    rename_i y s' h2
    cases h
    simp only [arrsK] at hk
    rw [sget_cons] at hk
    by_cases hb : c = b
    · subst hb
      simp only [if_true, Option.some.injEq] at hk
      subst hk
      rcases rdO_some h1 with ⟨rfl, rfl⟩ | ⟨c', rfl, h3⟩
      · exact .inl ⟨t, rfl⟩
      · exact .inr ⟨c', by simp, nn, t, z, rfl, h3⟩
    · rw [if_neg hb] at hk
      rcases rdK_arr h2 hk with h3 | ⟨s2, h3, h4⟩
      · exact .inl h3
      · exact .inr ⟨s2, by simp [h3], h4⟩
  | .o _ _ _ :: _, [], _, _, h, _, _, _ => by simp [rdK] at h
theorem bkO_heap {tm : List SV} {H HT : SH} : ∀ {ol : List OPl} {vs : List LSt} {y : OS ol} {σ : List (Nat × Nat)}, bkO ol vs tm H = some (y, σ) → OwnReg HT ol y → ∀ {b : Nat} {k : SB}, sget (hpO ol vs y) b = some k → NilB k ∨ ∃ s, (b, s) ∈ σ ∧ OCase H HT ol σ b s k
  | [], vs, y, σ, h, hO, b, k, hk => by simp [hpO, sget_nil] at hk
  | .otmp i c nn t :: r, vs, y, σ, h, hO, b, k, hk => by
    simp only [bkO] at h
    split at h
    case h_2 => cases h
    rename_i u hu
    split at h
    case h_2 => cases h
    rename_i x s h1
    split at h
    case h_2 => cases h
    rename_i y' σ' h2
    cases h
    simp only [hpO] at hk
    rw [sget_cons] at hk
    by_cases hb : c = b
    · subst hb
      simp only [if_true, Option.some.injEq] at hk
      subst hk
      rcases rdO_some h1 with ⟨rfl, rfl⟩ | ⟨c', rfl, h3⟩
      · exact .inl ⟨t, rfl⟩
      · exact .inr ⟨c', by simp, .arr nn t x h3⟩
    · rw [if_neg hb] at hk
      rcases bkO_heap h2 hO.2 hk with h3 | ⟨s', h3, h4⟩
      · exact .inl h3
      · exact .inr ⟨s', by simp [h3], h4.more fun q hq => by simp [hq]⟩
  | .sblk b0 ks :: r, vs, y, σ, h, hO, b, k, hk => by
    simp only [bkO] at h
    split at h
    case h_2 => cases h
    rename_i us hu
    split at h
    case h_2 => cases h
    rename_i x s h1
    split at h
    case h_2 => cases h
    rename_i y' σ' h2
    cases h
    simp only [hpO] at hk
    have rest : sget (hpO r vs y') b = some k → NilB k ∨ ∃ s', (b, s') ∈ (b0, b0) :: (s ++ σ') ∧ OCase H HT (.sblk b0 ks :: r) ((b0, b0) :: (s ++ σ')) b s' k := fun hk => by
      rcases bkO_heap h2 hO.2 hk with h3 | ⟨s', h3, h4⟩
      · exact .inl h3
      · exact .inr ⟨s', by simp [h3], h4.more fun q hq => by simp [hq]⟩
    rw [sget_cons] at hk
    by_cases hb0 : b0 = b
    · subst hb0
      simp only [if_true, Option.some.injEq] at hk
      subst hk
      exact .inr ⟨b0, by simp, .own ks us x s rfl hu h1 (fun p hp => by simp [hp]) hO.1⟩
    · rw [if_neg hb0, sget_append] at hk
      split at hk
      · rename_i kk hkk
        cases hk
        rcases rdK_arr h1 hkk with h3 | ⟨s', h3, nn, t, l, rfl, h4⟩
        · exact .inl h3
        · exact .inr ⟨s', by simp [h3], .arr nn t l h4⟩
      · exact rest hk
  | .arr b0 nn t :: r, vs, y, σ, h, hO, b, k, hk => by
    simp only [bkO] at h
    split at h
    case h_2 => cases h
    rename_i nn' t' l hl
    split at h
    case isFalse => cases h
    rename_i ht
    subst ht
    have h6 := cond_some h
    clear h
    obtain ⟨hq, h⟩ := h6
    have := bolQ_eq hq
    subst this
    split at h
    case h_2 => cases h
    rename_i y' σ' h2
    cases h
    simp only [hpO] at hk
    rw [sget_cons] at hk
    by_cases hb0 : b0 = b
    · subst hb0
      simp only [if_true, Option.some.injEq] at hk
      subst hk
      exact .inr ⟨b0, by simp, .arr _ _ _ hl⟩
    · rw [if_neg hb0] at hk
      rcases bkO_heap h2 hO.2 hk with h3 | ⟨s', h3, h4⟩
      · exact .inl h3
      · exact .inr ⟨s', by simp [h3], h4.more fun q hq => by simp [hq]⟩
  | .lp b0 L :: r, vs, y, σ, h, hO, b, k, hk => by
    simp only [bkO] at h
    split at h
    case h_2 => cases h
    rename_i L' hl
    have h6 := cond_some h
    clear h
    obtain ⟨hq, h⟩ := h6
    split at h
    case h_2 => cases h
    rename_i y' σ' h2
    cases h
    simp only [hpO] at hk
    rw [sget_cons] at hk
    by_cases hb0 : b0 = b
    · subst hb0
      simp only [if_true, Option.some.injEq] at hk
      subst hk
      exact .inr ⟨b0, by simp, .lp L L' vs rfl (by simp) hl hq⟩
    · rw [if_neg hb0] at hk
      rcases bkO_heap h2 hO hk with h3 | ⟨s', h3, h4⟩
      · exact .inl h3
      · exact .inr ⟨s', by simp [h3], h4.more fun q hq => by simp [hq]⟩
  | .dfd b0 :: r, vs, y, σ, h, hO, b, k, hk => by
    simp only [bkO] at h
    split at h
    case h_2 => cases h
    rename_i hl
    split at h
    case h_2 => cases h
    rename_i y' σ' h2
    cases h
    simp only [hpO] at hk
    rw [sget_cons] at hk
    by_cases hb0 : b0 = b
    · subst hb0
      simp only [if_true, Option.some.injEq] at hk
      subst hk
      exact .inr ⟨b0, by simp, .dfd rfl hl⟩
    · rw [if_neg hb0] at hk
      rcases bkO_heap h2 hO hk with h3 | ⟨s', h3, h4⟩
      · exact .inl h3
      · exact .inr ⟨s', by simp [h3], h4.more fun q hq => by simp [hq]⟩
  | .mpl b0 k0 ag t :: r, vs, y, σ, h, hO, b, k, hk => by
    simp only [bkO] at h
    split at h
    case h_2 => cases h
    rename_i k' ag' t' l hl
    split at h
    case isFalse => cases h
    rename_i ht
    subst ht
    have h6 := cond_some h
    clear h
    obtain ⟨hq, h⟩ := h6
    simp only [Bool.and_eq_true] at hq
    have := keqF_eq hq.1
    subst this
    have := bolQ_eq hq.2
    subst this
    split at h
    case h_2 => cases h
    rename_i y' σ' h2
    cases h
    simp only [hpO] at hk
    rw [sget_cons] at hk
    by_cases hb0 : b0 = b
    · subst hb0
      simp only [if_true, Option.some.injEq] at hk
      subst hk
      exact .inr ⟨b0, by simp, .mp _ _ _ _ rfl hl⟩
    · rw [if_neg hb0] at hk
      rcases bkO_heap h2 hO hk with h3 | ⟨s', h3, h4⟩
      · exact .inl h3
      · exact .inr ⟨s', by simp [h3], h4.more fun q hq => by simp [hq]⟩
end Go.Fz.Sy
/- The symbolic engine, part X: a loop's state folded into its canonical form. -/
noncomputable section
namespace Go.Fz.Sy
set_option linter.unusedVariables false
set_option linter.unusedSimpArgs false
set_option linter.unusedSectionVars false
variable {P : Program} {φ : Ren} {K : Nat → Prop} {w : World} {R : Type}

def lkS (σ : List (Nat × Nat)) (b : Nat) : Nat := List.rec (motive := fun _ => Nat) b (fun p _ ih => bif Nat.beq p.1 b then p.2 else ih) σ
def idD (dl : List DPl) : List (Nat × Nat) := (nmD dl).map fun b => (b, b)
/-- Each name has one source, each source one name. -/
def srcQ (σ : List (Nat × Nat)) : Bool := σ.all fun p => Nat.beq (lkS σ p.1) p.2 && σ.all fun q => Nat.beq p.1 q.1 || !Nat.beq p.2 q.2
theorem srcQ_lk {σ : List (Nat × Nat)} (h : srcQ σ = true) {b s : Nat} (hp : (b, s) ∈ σ) : lkS σ b = s := by
  unfold srcQ at h
  rw [List.all_eq_true] at h
  have := h _ hp
  simp only [Bool.and_eq_true] at this
  exact Nat.eq_of_beq_eq_true this.1
theorem srcQ_inj {σ : List (Nat × Nat)} (h : srcQ σ = true) {b c s : Nat} (hp : (b, s) ∈ σ) (hq : (c, s) ∈ σ) : b = c := by
  unfold srcQ at h
  rw [List.all_eq_true] at h
  have := h _ hp
  simp only [Bool.and_eq_true] at this
  have h2 := this.2
  rw [List.all_eq_true] at h2
  have h3 := h2 _ hq
  simp only [Bool.or_eq_true] at h3
  rcases h3 with h3 | h3
  · exact Nat.eq_of_beq_eq_true h3
  · have : Nat.beq s s = true := Nat.beq_refl s
    simp [] at h3

theorem cells_rel {φ : Ren} {arr : Array Value} : ∀ {cs : List Value} {o : Nat}, (∀ (j : Nat) v, cs[j]? = some v → ∃ v', arr[o + j]? = some v' ∧ VRel φ v v') → ∃ us, LRel φ cs us ∧ ∀ (j : Nat) u, us[j]? = some u → arr[o + j]? = some u
  | [], o, h => ⟨[], trivial, fun j u hu => by simp at hu⟩
  | c :: cs, o, h => by
    obtain ⟨v', h1, h2⟩ := h 0 c rfl
    obtain ⟨us, h3, h4⟩ := cells_rel (cs := cs) (o := o + 1) (fun j v hv => by
      obtain ⟨u, q1, q2⟩ := h (j + 1) v (by simpa using hv)
      exact ⟨u, by rw [← q1]; congr 1; omega, q2⟩)
    refine ⟨v' :: us, ⟨h2, h3⟩, fun j u hu => ?_⟩
    cases j with
    | zero => simp at hu; subst hu; exact h1
    | succ j => simp at hu; have := h4 j u hu; rw [← this]; congr 1; omega
theorem brel_cells {φ2 φ3 : Ren} {L : Loc} {cs ds : List Value} {ro : Bool} (h : BRel φ2 w L (.cells cs ro)) (hc : ∀ us, LRel φ2 cs us → LRel φ3 ds us) : BRel φ3 w L (.cells ds ro) := by
  obtain ⟨arr, el, fr, h1, h2, h3⟩ := h
  obtain ⟨us, q1, q2⟩ := cells_rel h2
  refine ⟨arr, el, fr, h1, fun j v hv => ?_, h3⟩
  obtain ⟨u, e1, e2⟩ := (hc us q1).get hv
  exact ⟨u, q2 j u e1, e2⟩
theorem flat_facts {φ φ0 : Ren} (hF : ∀ b L, φ (FZ + b) = some L → φ0 (FZ + b) = some L) {t : Ty} {l : List (T t)} {us : List Value} (h : LRel φ (flatA t l) us) : LRel φ0 (flatA t l) us := by
  refine LRel.of_get h.length fun i v v' hv hv' => ?_
  obtain ⟨u, h1, h2⟩ := h.get hv
  rw [hv'] at h1; cases h1
  have hm := List.mem_of_getElem? hv
  unfold flatA at hm
  rw [List.mem_flatMap] at hm
  obtain ⟨x, hx, hc⟩ := hm
  exact enc_facts hF t x v hc _ h2
theorem mv_facts {φ φ0 : Ren} (hF : ∀ b L, φ (FZ + b) = some L → φ0 (FZ + b) = some L) (ag : Bool) (t : Ty) (x : T t) {v' : Value} (h : VRel φ (mvV ag t x) v') : VRel φ0 (mvV ag t x) v' := by
  cases ag with
  | true =>
    simp only [mvV, cond_true, encE] at h ⊢
    obtain ⟨ys, rfl, hl⟩ := h.agg_inv
    exact .agg' (by simpa using lrel_facts hF (by simpa using hl))
  | false =>
    simp only [mvV, cond_false] at h ⊢
    cases hc : encC t x with
    | nil => rw [hc] at h; exact (by simp only [List.headD_nil, Fz.junk] at h; cases h)
    | cons a r =>
      rw [hc] at h
      simp only [List.headD_cons] at h ⊢
      exact enc_facts hF t x a (by rw [hc]; simp) _ h
theorem ents_facts {φ φ0 : Ren} (hF : ∀ b L, φ (FZ + b) = some L → φ0 (FZ + b) = some L) {k : IntKind} {ag : Bool} {t : Ty} : ∀ {l : List (Int × T t)} {i : Nat} {xs : List MapEntry}, ERel φ (entsM k ag t l i) xs → ERel φ0 (entsM k ag t l i) xs
  | [], i, [], h => trivial
  | [], i, _ :: _, h => h.elim
  | p :: r, i, [], h => h.elim
  | p :: r, i, e :: xs, h => ⟨h.1, mv_facts hF ag t p.2 h.2.1, ents_facts hF h.2.2⟩
theorem brel_mp {φ φ0 : Ren} (hF : ∀ b L, φ (FZ + b) = some L → φ0 (FZ + b) = some L) {L : Loc} {k : IntKind} {ag : Bool} {t : Ty} {l : List (Int × T t)} {i n : Nat} (h : BRel φ w L (.mp (entsM k ag t l i) n)) : BRel φ0 w L (.mp (entsM k ag t l i) n) := by
  obtain ⟨xs, h1, ⟨⟨ys, q1, q2⟩, q3⟩, h3⟩ := h
  exact ⟨xs, h1, ⟨⟨ys, q1, ents_facts hF q2⟩, q3⟩, h3⟩

section
variable {φ2 φ3 : Ren} {ν : Nat → Bool} {lo nx : Nat} {KA K' : Nat → Prop} {Hs : Hp} {H HS HR HT : SH} {dl : List DPl} {ol : List OPl} {vs : List LSt} {tm : List SV} {x : DS dl} {y : OS ol} {σ : List (Nat × Nat)} {ns : List Nat}
/-- The canonical state's heap. -/
theorem fold_good (eT : HT = hpD dl x ++ (hpO ol vs y ++ HR)) (gA : Good φ2 (denH ν HS) KA w) (gB : Good φ2 Hs K' w) (hv : VN ν nx HS) (hv3 : ∀ b, notNil (sget HT b) = true → ν b = false)
    (hD : bkD dl tm H = some (x, HS)) (hO : bkO ol vs tm HS = some (y, σ)) (hQ : srcQ (idD dl ++ σ) = true) (hs : ∀ p ∈ idD dl ++ σ, Hs.get p.2 = (denH ν HS).get p.2)
    (h3 : ∀ p ∈ idD dl ++ σ, φ3 p.1 = φ2 p.2) (hφ : ∀ b, b < lo → φ3 b = φ2 b) (hF : ∀ b, φ3 (FZ + b) = φ2 (FZ + b)) (hOR : OwnReg HT ol y)
    (hns : ∀ b ∈ ns, b < lo) (hr : ∀ b ∈ ns, reg (sget HT b) = reg (sget HS b))
    (hL : ∀ l L, OPl.lp l L ∈ ol → lowL ns lo L.tm = true ∧ L.dfr < lo ∧ ∀ L', sget HS l = some (.loop L') → ∃ s p, L' = { L with st := s, pend := p })
    (hR : ∀ b k, sget HR b = some k → ∀ kd, denB (rho ν HT) (ν b) k = some kd → kd.rw = false ∧ ∃ L, φ3 b = some L ∧ BRel φ3 w L kd ∧ K' L.blk) : Good φ3 (denH ν HT) K' w := by
  have hF2 : ∀ b L, φ2 (FZ + b) = some L → φ3 (FZ + b) = some L := fun b L h => by rw [hF]; exact h
  -- what is turned
  have key : ∀ b k, sget (hpD dl x) b = some k ∨ sget (hpO ol vs y) b = some k → ∀ kd, denB (rho ν HT) (ν b) k = some kd → (notNil (some k) = true → ν b = false) → ∃ s, (b, s) ∈ idD dl ++ σ ∧ kd.rw = true ∧ ∃ kd', (denH ν HS).get s = some kd' ∧ kd'.rw = true ∧ ∀ L, BRel φ2 w L kd' → BRel φ3 w L kd := by
    intro b k hk kd hkd hnn
    rcases hk with hk | hk
    · obtain ⟨t, z, cs, rfl, h1, h2⟩ := bkD_heap hD (GLe.refl _) hk
      have hm : b ∈ nmD dl := by
        apply Classical.byContradiction
        intro hn; rw [hpD_none hn] at hk; cases hk
      simp only [denB, Option.some.injEq] at hkd
      subst hkd
      refine ⟨b, by simp [idD, hm], rfl, .cells (denL (rho ν HS) cs) false, by rw [denH_get, h1]; rfl, rfl, fun L hb => brel_cells hb fun us hu => ?_⟩
      have := lrel_facts hF2 (h2 φ2 KA w nx us gA hv hu)
      rw [← encL_den (rho ν HT) t z] at this
      rw [denL_map]; exact this
    · rcases bkO_heap hO hOR hk with ⟨t, rfl⟩ | ⟨s, hm, hc⟩
      · simp [denB, nilA] at hkd
      refine ⟨s, by simp [hm], ?_⟩
      cases hc with
      | arr nn t l h =>
        simp only [denB] at hkd
        cases e2 : nilA nn l with
        | true => rw [e2] at hkd; cases hkd
        | false =>
          rw [e2] at hkd
          simp only [cond_false, Option.some.injEq] at hkd
          subst hkd
          exact ⟨rfl, .cells (flatA t l) false, by rw [denH_get, h]; simp [denB, e2], rfl, fun L hb => brel_cells hb fun us hu => flat_facts hF2 hu⟩
      | own ks us0 z s' hs' h hr' hσ hT =>
        subst hs'
        simp only [denB, Option.some.injEq] at hkd
        subst hkd
        exact ⟨rfl, .cells (denL (rho ν HS) us0) false, by rw [denH_get, h]; rfl, rfl, fun L hb => brel_cells hb fun us hu => rdK_rel gA hv hv3 hF2 hr' (fun p hp => h3 p (by simp [hσ p hp])) hT hu⟩
      | lp L L' vs' hs' hL' h hq =>
        subst hs'
        simp only [denB, Option.some.injEq] at hkd
        subst hkd
        obtain ⟨l1, l2, l3⟩ := hL _ _ hL'
        obtain ⟨s1, p1, rfl⟩ := l3 _ h
        refine ⟨rfl, .loop (denLoop (rho ν HS) { L with st := s1, pend := p1 }), by rw [denH_get, h]; rfl, rfl, fun M hb => ?_⟩
        have hst : s1 = (stO L vs').st ∧ p1 = (stO L vs').pend := by
          cases vs' with
          | nil => simp [stQ] at hq
          | cons v r =>
            simp only [stQ, Bool.and_eq_true] at hq
            exact ⟨stateQ_eq hq.1, pendQ_eq hq.2⟩
        have hrest : (stO L vs').tm = L.tm ∧ (stO L vs').params = L.params ∧ (stO L vs').assign = L.assign ∧ (stO L vs').body = L.body ∧ (stO L vs').dfr = L.dfr := by
          cases vs' <;> exact ⟨rfl, rfl, rfl, rfl, rfl⟩
        obtain ⟨l', f1, f2, f3, f4, f5, f6, f7, D, f8, f9⟩ := hb
        refine ⟨l', f1, ?_, ?_, ?_, ?_, ?_, ?_, D, ?_, f9⟩
        · rw [f2]; exact hst.1
        · rw [f3]; exact hst.2
        · refine ⟨?_, fun i v hv' => ?_⟩
          · have := f4.1
            simp only [denLoop, denL_length] at this ⊢
            rw [hrest.1]; exact this
          · simp only [denLoop, hrest.1] at hv'
            rw [denL_get, Option.map_eq_some_iff] at hv'
            obtain ⟨u, hu, rfl⟩ := hv'
            rcases f4.2 i (den (rho ν HS) u) (by simp only [denLoop]; rw [denL_get, hu]; rfl) with hq' | ⟨v', q1, q2⟩
            · exact .inl (den_junk (rho_junk ν HS) hq')
            · refine .inr ⟨v', q1, low_ren hφ hF2 hns hr u v' ?_ q2⟩
              have : ∀ (l : List SV) (i : Nat) u, lowL ns lo l = true → l[i]? = some u → lowV ns lo u = true := by
                intro l
                induction l with
                | nil => intro i u _ h; simp at h
                | cons a l ih =>
                  intro i u hl hi
                  simp only [lowL, Bool.and_eq_true] at hl
                  cases i with
                  | zero => simp at hi; subst hi; exact hl.1
                  | succ i => exact ih i u hl.2 (by simpa using hi)
              exact this _ _ _ l1 hu
        · simp only [denLoop, hrest.2.1]; exact f5
        · simp only [denLoop, hrest.2.2.1]; exact f6
        · simp only [denLoop, hrest.2.2.2.1]; exact f7
        · simp only [denLoop, hrest.2.2.2.2]
          rw [hφ _ l2]; exact f8
      | dfd hs' h =>
        subst hs'
        simp only [denB, Option.some.injEq] at hkd
        subst hkd
        exact ⟨rfl, .defd, by rw [denH_get, h]; rfl, rfl, fun L hb => hb⟩
      | mp k ag t l hs' h =>
        subst hs'
        simp only [denB, Option.some.injEq] at hkd
        subst hkd
        exact ⟨rfl, .mp (entsM k ag t l 0) l.length, by rw [denH_get, h]; rfl, rfl, fun L hb => brel_mp hF2 hb⟩
  have split : ∀ b kd, (denH ν HT).get b = some kd → (∃ s, (b, s) ∈ idD dl ++ σ ∧ kd.rw = true ∧ ∃ kd', Hs.get s = some kd' ∧ kd'.rw = true ∧ ∀ L, BRel φ2 w L kd' → BRel φ3 w L kd) ∨ (kd.rw = false ∧ ∃ L, φ3 b = some L ∧ BRel φ3 w L kd ∧ K' L.blk) := by
    intro b kd hb
    rw [denH_get] at hb
    cases hk : sget HT b with
    | none => rw [hk] at hb; cases hb
    | some k =>
      rw [hk] at hb
      simp only [Option.bind_some] at hb
      have hnn : notNil (some k) = true → ν b = false := fun h => hv3 b (by rw [hk]; exact h)
      rw [eT, sget_append, sget_append] at hk
      have fin : (sget (hpD dl x) b = some k ∨ sget (hpO ol vs y) b = some k) → (∃ s, (b, s) ∈ idD dl ++ σ ∧ kd.rw = true ∧ ∃ kd', Hs.get s = some kd' ∧ kd'.rw = true ∧ ∀ L, BRel φ2 w L kd' → BRel φ3 w L kd) ∨ (kd.rw = false ∧ ∃ L, φ3 b = some L ∧ BRel φ3 w L kd ∧ K' L.blk) := fun h => by
        obtain ⟨s, e1, e2, kd', e3, e4, e5⟩ := key b k h kd hb hnn
        exact Or.inl ⟨s, e1, e2, kd', by rw [hs _ e1]; exact e3, e4, e5⟩
      split at hk
      · rename_i h1; cases hk; exact fin (.inl h1)
      · split at hk
        · rename_i h1; cases hk; exact fin (.inr h1)
        · exact .inr (hR b k hk kd hb)
  refine good_fold gB (lkS (idD dl ++ σ)) (fun b k hb => ?_) (fun b c k k' hb hc hk hk' hne => ?_) (fun b k hb hk => ?_) hF
  · rcases split b k hb with ⟨s, e1, e2, kd', e3, e4, e5⟩ | h
    · rw [srcQ_lk hQ e1]
      exact .inl ⟨kd', e3, h3 _ e1, e4, e5⟩
    · exact .inr h
  · rcases split b k hb with ⟨s, e1, _⟩ | ⟨h, _⟩
    · rcases split c k' hc with ⟨s', e1', _⟩ | ⟨h, _⟩
      · rw [srcQ_lk hQ e1, srcQ_lk hQ e1']
        intro e; subst e
        exact hne (srcQ_inj hQ e1 e1')
      · rw [hk'] at h; cases h
    · rw [hk] at h; cases h
  · rcases split b k hb with ⟨s, e1, e2, _⟩ | ⟨_, h⟩
    · rw [hk] at e2; cases e2
    · exact h
end
end Go.Fz.Sy
/- The symbolic engine, part Y: a loop's frame; a state is folded again and again. -/
noncomputable section
namespace Go.Fz.Sy
set_option linter.unusedVariables false
set_option linter.unusedSimpArgs false
set_option linter.unusedSectionVars false
variable {P : Program} {φ : Ren} {K : Nat → Prop} {w : World} {R : Type}

def selS (pn : List Nat) (f : Nat → SB → SB) : SH → SH
  | [] => []
  | (b, k) :: r => bif memN pn b then selS pn f r else (b, f b k) :: selS pn f r
theorem selS_get (pn : List Nat) (f : Nat → SB → SB) (n : Nat) : ∀ H : SH, sget (selS pn f H) n = if n ∈ pn then none else (sget H n).map (f n)
  | [] => by simp [selS, sget_nil]
  | (b, k) :: r => by
    have ih := selS_get pn f n r
    simp only [selS]
    cases hm : memN pn b with
    | true =>
      rw [cond_true, ih]
      have hb := (memN_iff _ _).1 hm
      by_cases hn : n ∈ pn
      · simp [hn]
      · have : b ≠ n := fun e => hn (e ▸ hb)
        rw [if_neg hn, if_neg hn, sget_cons, if_neg this]
    | false =>
      rw [cond_false, sget_cons, sget_cons]
      by_cases hbn : b = n
      · subst hbn
        have hb : b ∉ pn := fun h => by rw [(memN_iff _ _).2 h] at hm; cases hm
        simp [hb]
      · rw [if_neg hbn, if_neg hbn, ih]
/-- The names of arrays. -/
def nsS : SH → List Nat
  | [] => []
  | (b, k) :: r => match reg (some k) with
    | some _ => b :: nsS r
    | none => nsS r
/-- A block that the loop does not turn, as the loop sees it; mv: the arrays that went under another name. -/
def viewB (ns mv : List Nat) (lo : Nat) (b : Nat) : SB → SB
  | .vars cs => bif lowL ns lo cs then .ro cs else .hid
  | .ro cs => bif lowL ns lo cs then .ro cs else .hid
  | .arr nn t l => bif memN mv b then .gone (rsz nn t l) l.length else .roa nn t l
  | .roa nn t l => .roa nn t l
  | .fro nn t l => .fro nn t l
  | .gone s n => .gone s n
  | .abs => .abs
  | _ => .hid
def backB (mv : List Nat) (b : Nat) : SB → SB
  | .arr nn t l => bif memN mv b then .gone (rsz nn t l) l.length else .arr nn t l
  | k => k
theorem viewB_reg (ns mv : List Nat) (lo b : Nat) (k : SB) : reg (some (viewB ns mv lo b k)) = reg (some k) := by
  cases k with
  | vars cs => simp only [viewB]; cases lowL ns lo cs <;> rfl
  | ro cs => simp only [viewB]; cases lowL ns lo cs <;> rfl
  | arr nn t l => simp only [viewB]; cases memN mv b <;> first | rfl | exact reg_gone _ _ _
  | _ => rfl
theorem backB_reg (mv : List Nat) (b : Nat) (k : SB) : reg (some (backB mv b k)) = reg (some k) := by
  cases k with
  | arr nn t l => simp only [backB]; cases memN mv b <;> first | rfl | exact reg_gone _ _ _
  | _ => rfl
def arrN : List OPl → List Nat
  | [] => []
  | .arr b _ _ :: r => b :: arrN r
  | .otmp _ _ _ _ :: r => arrN r
  | .sblk _ _ :: r => arrN r
  | .lp _ _ :: r => arrN r
  | .dfd _ :: r => arrN r
  | .mpl _ _ _ _ :: r => arrN r
/-- Names of places as they must be. -/
def nameQ (lo n0 : Nat) (σ : List (Nat × Nat)) : Bool := σ.all fun p => Nat.blt p.1 n0 && (Nat.ble lo p.1 || Nat.beq p.1 p.2)
def regQ (ns : List Nat) (dl : List DPl) (ol : List OPl) : Bool := ns.all fun b => !memN (nmD dl) b && (memN (arrN ol) b || !memN (nmO ol) b)
theorem arrN_reg {HS HT : SH} {tm : List SV} : ∀ {ol : List OPl} {vs : List LSt} {y : OS ol} {σ : List (Nat × Nat)}, bkO ol vs tm HS = some (y, σ) → OwnReg HT ol y → ∀ b ∈ arrN ol, reg (sget HT b) = reg (sget HS b)
  | [], vs, y, σ, h, hO, b, hb => by cases hb
  | .otmp i c nn t :: r, vs, y, σ, h, hO, b, hb => by
    simp only [bkO] at h
    split at h
    case h_2 => cases h
    split at h
    case h_2 => cases h
    split at h
    case h_2 => cases h
    rename_i h2
    cases h
    exact arrN_reg h2 hO.2 b hb
  | .sblk b0 ks :: r, vs, y, σ, h, hO, b, hb => by
    simp only [bkO] at h
    split at h
    case h_2 => cases h
    split at h
    case h_2 => cases h
    split at h
    case h_2 => cases h
    rename_i h2
    cases h
    exact arrN_reg h2 hO.2 b hb
  | .arr b0 nn t :: r, vs, y, σ, h, hO, b, hb => by
    simp only [bkO] at h
    split at h
    case h_2 => cases h
    rename_i nn' t' l hl
    split at h
    case isFalse => cases h
    rename_i ht
    subst ht
    have h6 := cond_some h
    clear h
    obtain ⟨hq, h⟩ := h6
    have := bolQ_eq hq
    subst this
    split at h
    case h_2 => cases h
    rename_i h2
    cases h
    rcases List.mem_cons.1 hb with rfl | hb
    · rw [hO.1, hl]; rfl
    · exact arrN_reg h2 hO.2 b hb
  | .lp b0 L :: r, vs, y, σ, h, hO, b, hb => by
    simp only [bkO] at h
    split at h
    case h_2 => cases h
    have h6 := cond_some h
    clear h
    obtain ⟨hq, h⟩ := h6
    split at h
    case h_2 => cases h
    rename_i h2
    cases h
    exact arrN_reg h2 hO b hb
  | .dfd b0 :: r, vs, y, σ, h, hO, b, hb => by
    simp only [bkO] at h
    split at h
    case h_2 => cases h
    split at h
    case h_2 => cases h
    rename_i h2
    cases h
    exact arrN_reg h2 hO b hb
  | .mpl b0 k ag t :: r, vs, y, σ, h, hO, b, hb => by
    simp only [bkO] at h
    split at h
    case h_2 => cases h
    split at h
    case isFalse => cases h
    obtain ⟨_, h⟩ := cond_some h
    split at h
    case h_2 => cases h
    rename_i h2
    cases h
    exact arrN_reg h2 hO b hb

/-- The frame of a loop. -/
structure Frm where
  dl : List DPl
  ol : List OPl
  tm0 : List SV
  ns : List Nat
  mv : List Nat
  lo : Nat
  n0 : Nat
  H1 : SH
def Frm.pn (F : Frm) : List Nat := nmD F.dl ++ nmO F.ol
def Frm.HR (F : Frm) : SH := selS F.pn (viewB F.ns F.mv F.lo) F.H1
def Frm.HF (F : Frm) : SH := selS F.pn (backB F.mv) F.H1
def Frm.St (F : Frm) : Type := DS F.dl × OS F.ol
def Frm.hp (F : Frm) (HX : SH) (vs : List LSt) (x : DS F.dl) (y : OS F.ol) : SH := hpD F.dl x ++ (hpO F.ol vs y ++ HX)
def Frm.tm (F : Frm) (x : DS F.dl) (y : OS F.ol) : List SV := tmO F.ol y (tmD F.dl x F.tm0)
/-- Checked once. -/
structure Frm.Ok (F : Frm) : Prop where
  names : F.pn.Nodup
  nsl : ∀ b ∈ F.ns, b < F.lo
  nsr : regQ F.ns F.dl F.ol = true
  lps : ∀ l L, OPl.lp l L ∈ F.ol → lowL F.ns F.lo L.tm = true ∧ L.dfr < F.lo ∧ sget F.H1 l = some (.loop L)
  tml : lowL F.ns F.lo F.tm0 = true
  le : F.lo ≤ F.n0
def Frm.KX (F : Frm) (K : Nat → Prop) (φ1 : Ren) (ν : Nat → Bool) : Nat → Prop := Sy.KX K φ1 (denHr ν (rho ν F.H1) F.HR)

theorem lowL_get {ns : List Nat} {lo : Nat} : ∀ {l : List SV} {i : Nat} {u : SV}, lowL ns lo l = true → l[i]? = some u → lowV ns lo u = true
  | [], i, u, _, h => by simp at h
  | a :: l, i, u, hl, hi => by
    simp only [lowL, Bool.and_eq_true] at hl
    cases i with
    | zero => simp at hi; subst hi; exact hl.1
    | succ i => exact lowL_get (l := l) (i := i) hl.2 (by simpa using hi)
theorem hpO_notNil {H HT : SH} {ol : List OPl} {vs : List LSt} {y : OS ol} {σ : List (Nat × Nat)} {tm : List SV} (h : bkO ol vs tm H = some (y, σ)) (hO : OwnReg HT ol y) {b : Nat} (hk : notNil (sget (hpO ol vs y) b) = true) : ∃ s t l, (b, s) ∈ σ ∧ sget H s = some (.arr true t l) := by
  cases hs : sget (hpO ol vs y) b with
  | none => rw [hs] at hk; cases hk
  | some k =>
    rw [hs] at hk
    rcases bkO_heap h hO hs with ⟨t, rfl⟩ | ⟨s, h1, h2⟩
    · cases hk
    cases h2 with
    | arr nn t l h =>
      have hk : nn = true := hk
      subst hk
      exact ⟨s, t, l, h1, h⟩
    | own => cases hk
    | lp => cases hk
    | dfd => cases hk
    | mp => cases hk

/-- A state of the loop, seen from the frame. -/
structure Frm.Seen (F : Frm) (K : Nat → Prop) (φ1 : Ren) (wE : World) (ν : Nat → Bool) (HX : SH) (vs : List LSt) (x : DS F.dl) (y : OS F.ol) (φ3 : Ren) (w : World) (ts : Array Value) : Prop where
  good : Good φ3 (denH ν (F.hp HX vs x y)) (F.KX K φ1 ν) w
  tms : TRel φ3 (denL (rho ν (F.hp HX vs x y)) (F.tm x y)) ts
  ext : Ext (F.KX K φ1 ν) φ1 φ3 F.lo F.n0
  vn : VN ν F.n0 (F.hp HX vs x y)
  regs : ∀ b ∈ F.ns, reg (sget (F.hp HX vs x y) b) = reg (sget F.H1 b)
  went : Went (F.KX K φ1 ν) wE w
section
variable {F : Frm} {φ1 φ2 : Ren} {wE : World} {ν : Nat → Bool} {K KA : Nat → Prop} {M nx2 : Nat}
theorem refold_st (hF : F.Ok) (hvE : VN ν F.lo F.H1)
    {HS0 HS : SH} {tmS : List SV} {vs : List LSt} {x : DS F.dl} {y : OS F.ol} {σ : List (Nat × Nat)} (hv : VN ν nx2 HS)
    (hD : bkD F.dl tmS HS0 = some (x, HS)) (hO : bkO F.ol vs tmS HS = some (y, σ)) (hN : nameQ F.lo F.n0 (idD F.dl ++ σ) = true)
    (hregs : ∀ b ∈ F.ns, reg (sget HS b) = reg (sget F.H1 b)) :
    OwnReg (F.hp F.HR vs x y) F.ol y ∧ (∀ b, b ∉ F.pn → sget (F.hp F.HR vs x y) b = (sget F.H1 b).map (viewB F.ns F.mv F.lo b)) ∧ (∀ b ∈ F.ns, reg (sget (F.hp F.HR vs x y) b) = reg (sget F.H1 b)) ∧ VN ν F.n0 (F.hp F.HR vs x y) := by
  -- the heap's arrays
  have hOR : OwnReg (F.hp F.HR vs x y) F.ol y := by
    have hn := hF.names
    unfold Frm.pn at hn
    rw [List.nodup_append] at hn
    exact ownReg_of F.ol vs y (hpD F.dl x) F.HR hn.2.1 fun n hm => hpD_none fun h => hn.2.2 n h n hm rfl
  have hRget : ∀ b, b ∉ F.pn → sget F.HR b = (sget F.H1 b).map (viewB F.ns F.mv F.lo b) := fun b hb => by
    unfold Frm.HR; rw [selS_get, if_neg hb]
  have hTget : ∀ b, b ∉ F.pn → sget (F.hp F.HR vs x y) b = (sget F.H1 b).map (viewB F.ns F.mv F.lo b) := fun b hb => by
    have h1 : b ∉ nmD F.dl := fun h => hb (by simp [Frm.pn, h])
    have h2 : b ∉ nmO F.ol := fun h => hb (by simp [Frm.pn, h])
    unfold Frm.hp
    rw [sget_append, hpD_none h1, sget_append, hpO_none h2]
    exact hRget b hb
  have hnsq : ∀ b ∈ F.ns, b ∉ nmD F.dl ∧ (b ∈ arrN F.ol ∨ b ∉ nmO F.ol) := fun b hb => by
    have := hF.nsr
    unfold regQ at this
    rw [List.all_eq_true] at this
    have h2 := this b hb
    simp only [Bool.and_eq_true, Bool.or_eq_true, Bool.not_eq_true'] at h2
    refine ⟨fun h => ?_, ?_⟩
    · rw [(memN_iff _ _).2 h] at h2; cases h2.1
    · rcases h2.2 with h3 | h3
      · exact .inl ((memN_iff _ _).1 h3)
      · refine .inr fun h => ?_
        rw [(memN_iff _ _).2 h] at h3; cases h3
  have hreg : ∀ b ∈ F.ns, reg (sget (F.hp F.HR vs x y) b) = reg (sget F.H1 b) := fun b hb => by
    obtain ⟨h1, h2⟩ := hnsq b hb
    by_cases hm : b ∈ nmO F.ol
    · have h3 : b ∈ arrN F.ol := by rcases h2 with h | h; exact h; exact absurd hm h
      rw [arrN_reg hO hOR b h3, hregs b hb]
    · rw [hTget b (by simp [Frm.pn, h1, hm])]
      cases hk : sget F.H1 b with
      | none => rfl
      | some k => exact viewB_reg _ _ _ _ k
  have hnn : ∀ b, notNil (sget (F.hp F.HR vs x y) b) = true → ν b = false := fun b hb => by
    by_cases hp : b ∈ F.pn
    · unfold Frm.hp at hb
      rw [sget_append] at hb
      cases hs1 : sget (hpD F.dl x) b with
      | some k =>
        rw [hs1] at hb
        obtain ⟨t, z, cs, rfl, _⟩ := bkD_heap (ν := ν) hD (GLe.refl _) hs1
        cases hb
      | none =>
        rw [hs1] at hb
        simp only at hb
        rw [sget_append] at hb
        cases hs2 : sget (hpO F.ol vs y) b with
        | some k =>
          rw [hs2] at hb
          simp only at hb
          obtain ⟨s, t, l, h1, h2⟩ := hpO_notNil hO hOR (b := b) (by rw [hs2]; exact hb)
          have hN' := hN
          unfold nameQ at hN'
          rw [List.all_eq_true] at hN'
          have := hN' (b, s) (by simp [h1])
          simp only [Bool.and_eq_true, Bool.or_eq_true, Nat.blt_eq, Nat.ble_eq] at this
          rcases this.2 with h3 | h3
          · exact hvE.old b h3
          · have := Nat.eq_of_beq_eq_true h3
            subst this
            exact hv.nn b (by rw [h2]; rfl)
        | none =>
          rw [hs2] at hb
          simp only at hb
          unfold Frm.HR at hb
          rw [selS_get, if_pos hp] at hb
          cases hb
    · rw [hTget b hp] at hb
      cases hk : sget F.H1 b with
      | none => rw [hk] at hb; cases hb
      | some k =>
        rw [hk] at hb
        refine hvE.nn b ?_
        rw [hk]
        cases k with
        | arr nn t l =>
          simp only [Option.map_some, viewB] at hb
          cases hm : memN F.mv b with
          | true => rw [hm] at hb; cases hb
          | false => rw [hm] at hb; exact hb
        | roa nn t l => exact hb
        | vars cs =>
          simp only [Option.map_some, viewB] at hb
          cases hm : lowL F.ns F.lo cs <;> rw [hm] at hb <;> cases hb
        | ro cs =>
          simp only [Option.map_some, viewB] at hb
          cases hm : lowL F.ns F.lo cs <;> rw [hm] at hb <;> cases hb
        | _ => cases hb
  have hvT : VN ν F.n0 (F.hp F.HR vs x y) := by
    exact ⟨fun b n hr => reg_zero hr, fun b hb => hvE.old b (Nat.le_trans hF.le hb), hnn⟩
  exact ⟨hOR, hTget, hreg, hvT⟩
theorem refold (hF : F.Ok) (gE : Good φ1 (denH ν F.H1) K wE) (hfr : Fresh φ1 F.lo M) (hM : F.n0 ≤ M) (hvE : VN ν F.lo F.H1)
    {HS0 HS : SH} {Hs : Hp} {tmS : List SV} {ts : Array Value} {vs : List LSt} {x : DS F.dl} {y : OS F.ol} {σ : List (Nat × Nat)}
    (e2 : Ext (F.KX K φ1 ν) φ1 φ2 F.lo M) (hw : Went (F.KX K φ1 ν) wE w) (gA : Good φ2 (denH ν HS) KA w) (gB : Good φ2 Hs (F.KX K φ1 ν) w) (hv : VN ν nx2 HS)
    (hD : bkD F.dl tmS HS0 = some (x, HS)) (hO : bkO F.ol vs tmS HS = some (y, σ)) (hQ : srcQ (idD F.dl ++ σ) = true) (hN : nameQ F.lo F.n0 (idD F.dl ++ σ) = true)
    (hs : ∀ p ∈ idD F.dl ++ σ, Hs.get p.2 = (denH ν HS).get p.2) (hregs : ∀ b ∈ F.ns, reg (sget HS b) = reg (sget F.H1 b))
    (ht : TRel φ2 (denL (rho ν HS) tmS) ts) (hlen : tmS.length = F.tm0.length) (hsame : ∀ (i : Nat) u, F.tm0[i]? = some u → u ≠ .junk → tmS[i]? = some u)
    (hlp : ∀ l L, OPl.lp l L ∈ F.ol → ∀ L', sget HS l = some (.loop L') → ∃ s p, L' = { L with st := s, pend := p }) :
    ∃ φ3, F.Seen K φ1 wE ν F.HR vs x y φ3 w ts := by
  let σ' := idD F.dl ++ σ
  let φ3 : Ren := fun b => if b < FZ then (if F.lo ≤ b ∧ b < F.n0 then φ2 (lkS σ' b) else φ1 b) else φ2 b
  have hz : F.n0 ≤ FZ := Nat.le_trans hM hfr.1
  have f1 : ∀ b, φ3 (FZ + b) = φ2 (FZ + b) := fun b => by
    have : ¬ FZ + b < FZ := by omega
    simp only [φ3, this, if_false]
  have f2 : ∀ b, b < F.lo → φ3 b = φ1 b := fun b hb => by
    have h1 : b < FZ := by have := hF.le; omega
    have h2 : ¬ (F.lo ≤ b ∧ b < F.n0) := by omega
    simp only [φ3, h1, h2, if_true, if_false]
  have f3 : ∀ b, b < F.lo → φ3 b = φ2 b := fun b hb => by
    rw [f2 b hb, e2.2.1 b (by have := hF.le; omega) (.inl hb)]
  have f4 : ∀ p ∈ σ', φ3 p.1 = φ2 p.2 := fun p hp => by
    have hN' := hN
    unfold nameQ at hN'
    rw [List.all_eq_true] at hN'
    have := hN' p hp
    simp only [Bool.and_eq_true, Bool.or_eq_true, Nat.blt_eq, Nat.ble_eq] at this
    obtain ⟨h1, h2⟩ := this
    by_cases hlo : F.lo ≤ p.1
    · have h3 : p.1 < FZ := by omega
      simp only [φ3, h3, if_true, hlo, h1, and_self]
      rw [show lkS σ' p.1 = p.2 from srcQ_lk hQ hp]
    · have h4 : p.1 = p.2 := by
        rcases h2 with h2 | h2
        · exact absurd h2 hlo
        · exact Nat.eq_of_beq_eq_true h2
      rw [f3 _ (by omega), h4]
  have e3 : Ext (F.KX K φ1 ν) φ1 φ3 F.lo F.n0 := by
    refine ⟨fun b L hL => ?_, fun b hb hb2 => ?_, fun b L hL => ?_⟩
    · by_cases hb : b < FZ
      · have h2 : ¬ (F.lo ≤ b ∧ b < F.n0) := fun h => by
          rw [hfr.2 b h.1 (by omega)] at hL; cases hL
        simp only [φ3, hb, h2, if_true, if_false]; exact hL
      · simp only [φ3, hb, if_false]; exact e2.1 b L hL
    · have h2 : ¬ (F.lo ≤ b ∧ b < F.n0) := by omega
      simp only [φ3, hb, h2, if_true, if_false]
    · rw [f1] at hL; exact e2.2.2 b L hL
  obtain ⟨hOR, hTget, hreg, hvT⟩ := refold_st hF hvE hv hD hO hN hregs
  have hnn := hvT.nn
  have hRget : ∀ b, b ∉ F.pn → sget F.HR b = (sget F.H1 b).map (viewB F.ns F.mv F.lo b) := fun b hb => by
    unfold Frm.HR; rw [selS_get, if_neg hb]
  have hFz : ∀ b L, φ1 (FZ + b) = some L → φ3 (FZ + b) = some L := fun b L h => e3.1 _ L h
  have hlow : ∀ (v : SV) (v' : Value), lowV F.ns F.lo v = true → VRel φ1 (den (rho ν F.H1) v) v' → VRel φ3 (den (rho ν (F.hp F.HR vs x y)) v) v' := low_ren (fun b hb => f2 b hb) hFz hF.nsl hreg
  have hlowL : ∀ (vs' : List SV) (us : List Value), lowL F.ns F.lo vs' = true → LRel φ1 (denL (rho ν F.H1) vs') us → LRel φ3 (denL (rho ν (F.hp F.HR vs x y)) vs') us := lowL_ren (fun b hb => f2 b hb) hFz hF.nsl hreg
  refine ⟨φ3, ?_, ?_, e3, hvT, hreg, hw⟩
  · refine fold_good rfl gA gB hv hnn hD hO hQ hs f4 f3 f1 hOR hF.nsl (fun b hb => by rw [hreg b hb, hregs b hb]) (fun l L hL => ⟨(hF.lps l L hL).1, (hF.lps l L hL).2.1, hlp l L hL⟩) ?_
    intro b k hk kd hkd
    have hp : b ∉ F.pn := fun h => by
      unfold Frm.HR at hk
      rw [selS_get, if_pos h] at hk; cases hk
    rw [hRget b hp] at hk
    rw [Option.map_eq_some_iff] at hk
    obtain ⟨kH, hkH, rfl⟩ := hk
    -- the block at the beginning
    have base : ∀ kE, denB (rho ν F.H1) (ν b) kH = some kE → (∃ kv, denB (rho ν F.H1) (ν b) (viewB F.ns F.mv F.lo b kH) = some kv) → ∃ L, φ3 b = some L ∧ BRel φ1 w L kE ∧ F.KX K φ1 ν L.blk := fun kE hkE hkv => by
      obtain ⟨kv, hkv⟩ := hkv
      obtain ⟨L, hL, hB⟩ := gE.rel b kE (by rw [denH_get, hkH]; exact hkE)
      have hK : F.KX K φ1 ν L.blk := .inr ⟨b, kv, L, by rw [denHr_get, hRget b hp, hkH]; exact hkv, hL, rfl⟩
      exact ⟨L, e3.1 b L hL, BRel.congr (hw.kept _ hK) hB, hK⟩
    have hidE : ∀ kE, denB (rho ν F.H1) (ν b) kH = some kE → viewB F.ns F.mv F.lo b kH = .hid → kd.rw = false ∧ ∃ L, φ3 b = some L ∧ BRel φ3 w L kd ∧ F.KX K φ1 ν L.blk := fun kE hkE hh => by
      rw [hh] at hkd
      simp only [denB, Option.some.injEq] at hkd
      subst hkd
      obtain ⟨L, h1, h2, h3⟩ := base kE hkE ⟨.hid, by rw [hh]; rfl⟩
      exact ⟨rfl, L, h1, (BRel.hid_of h2).mono e3.1, h3⟩
    cases kH with
    | vars cs =>
      cases hl : lowL F.ns F.lo cs with
      | false => exact hidE _ rfl (by simp only [viewB, hl, cond_false])
      | true =>
        simp only [viewB, hl, cond_true, denB, Option.some.injEq] at hkd
        subst hkd
        obtain ⟨L, h1, h2, h3⟩ := base _ rfl ⟨.cells (denL (rho ν F.H1) cs) true, by simp only [viewB, hl, cond_true, denB]⟩
        obtain ⟨arr, el, fr, q1, q2, q3⟩ := h2
        exact ⟨rfl, L, h1, brel_cells (cs := denL (rho ν F.H1) cs) ⟨arr, el, fr, q1, q2, fun h => by cases h⟩ (fun us hu => hlowL cs us hl hu), h3⟩
    | ro cs =>
      cases hl : lowL F.ns F.lo cs with
      | false => exact hidE _ rfl (by simp only [viewB, hl, cond_false])
      | true =>
        simp only [viewB, hl, cond_true, denB, Option.some.injEq] at hkd
        subst hkd
        obtain ⟨L, h1, h2, h3⟩ := base _ rfl ⟨.cells (denL (rho ν F.H1) cs) true, by simp only [viewB, hl, cond_true, denB]⟩
        exact ⟨rfl, L, h1, brel_cells (cs := denL (rho ν F.H1) cs) h2 (fun us hu => hlowL cs us hl hu), h3⟩
    | arr nn t l =>
      cases hm : memN F.mv b with
      | true => simp only [viewB, hm, cond_true, denB, reduceCtorEq] at hkd
      | false =>
        simp only [viewB, hm, cond_false, denB] at hkd
        cases hn : nilA nn l with
        | true => rw [hn] at hkd; cases hkd
        | false =>
          rw [hn] at hkd
          simp only [cond_false, Option.some.injEq] at hkd
          subst hkd
          obtain ⟨L, h1, h2, h3⟩ := base (.cells (flatA t l) false) (by simp only [denB, hn, cond_false]) ⟨.cells (flatA t l) true, by simp only [viewB, hm, cond_false, denB, hn]⟩
          obtain ⟨arr, el, fr, q1, q2, q3⟩ := h2
          exact ⟨rfl, L, h1, BRel.mono e3.1 (k := .cells (flatA t l) true) ⟨arr, el, fr, q1, q2, fun h => by cases h⟩, h3⟩
    | roa nn t l =>
      simp only [viewB, denB] at hkd
      cases hn : nilA nn l with
      | true => rw [hn] at hkd; cases hkd
      | false =>
        rw [hn] at hkd
        simp only [cond_false, Option.some.injEq] at hkd
        subst hkd
        obtain ⟨L, h1, h2, h3⟩ := base (.cells (flatA t l) true) (by simp only [denB, hn, cond_false]) ⟨.cells (flatA t l) true, by simp only [viewB, denB, hn, cond_false]⟩
        exact ⟨rfl, L, h1, h2.mono e3.1, h3⟩
    | fro nn t l =>
      simp only [viewB, denB] at hkd
      cases hn : nilA nn l with
      | true => rw [hn] at hkd; cases hkd
      | false =>
        rw [hn] at hkd
        simp only [cond_false, Option.some.injEq] at hkd
        subst hkd
        obtain ⟨L, h1, h2, h3⟩ := base (.fzc (flatA t l)) (by simp only [denB, hn, cond_false]) ⟨.fzc (flatA t l), by simp only [viewB, denB, hn, cond_false]⟩
        exact ⟨rfl, L, h1, h2.mono e3.1, h3⟩
    | gone s n => simp only [viewB, denB, reduceCtorEq] at hkd
    | loop L => exact hidE _ rfl rfl
    | defd => exact hidE _ rfl rfl
    | hid => exact hidE _ rfl rfl
    | mpb k ag t l => exact hidE _ rfl rfl
    | abs => simp only [viewB, denB, reduceCtorEq] at hkd
  · have hF2 : ∀ b L, φ2 (FZ + b) = some L → φ3 (FZ + b) = some L := fun b L h => by rw [f1]; exact h
    have hlow2 : ∀ (v : SV) (v' : Value), lowV F.ns F.lo v = true → VRel φ2 (den (rho ν HS) v) v' → VRel φ3 (den (rho ν (F.hp F.HR vs x y)) v) v' := low_ren f3 hF2 hF.nsl (fun b hb => by rw [hreg b hb, hregs b hb])
    have h0 : TRel φ3 (denL (rho ν (F.hp F.HR vs x y)) F.tm0) ts := by
      refine ⟨by have := ht.1; rw [denL_length] at this ⊢; omega, fun i v hv' => ?_⟩
      rw [denL_get, Option.map_eq_some_iff] at hv'
      obtain ⟨u, hu, rfl⟩ := hv'
      by_cases hj : u = .junk
      · subst hj; exact .inl (by simp [den])
      · rcases ht.2 i (den (rho ν HS) u) (by rw [denL_get, hsame i u hu hj]; rfl) with hq | ⟨v', q1, q2⟩
        · exact absurd (den_isjunk hq) hj
        · exact .inr ⟨v', q1, hlow2 u v' (lowL_get hF.tml hu) q2⟩
    unfold Frm.tm
    refine bkO_tmps hv hnn ht hO hOR (fun p hp => f4 p (by simp [σ', hp])) ?_
    exact bkD_tmps gA hv hF2 hD (GLe.refl _) ht h0
end
end Go.Fz.Sy
/- The symbolic engine, part Z: loops over data. -/
noncomputable section
namespace Go.Fz.Sy
set_option linter.unusedVariables false
set_option linter.unusedSimpArgs false
set_option linter.unusedSectionVars false
variable {P : Program} {φ : Ren} {K : Nat → Prop} {w : World} {R : Type}

theorem iter_inv {X S : Type} {B : S → Option (X ⊕ S)} {I : S → Prop} {J : X → Prop} (h : ∀ s r, B s = some r → I s → match r with | .inl x => J x | .inr s' => I s') : ∀ (N : Nat) (s : S) (x : X), iterK B N s = some x → I s → J x
  | 0, s, x, hi, hI => by cases hi
  | N + 1, s, x, hi, hI => by
    rw [iterK_succ] at hi
    split at hi
    · rename_i y hB; cases hi; exact h s _ hB hI
    · rename_i s' hB; exact iter_inv h N s' x hi (h s _ hB hI)
    · cases hi
/-- A number beyond all rounds. -/
theorem bigNS:∃n:Nat,1180591620717411303424≤n:=⟨1180591620717411303424,Nat.le_refl _⟩
def bigN:Nat:=Classical.choose bigNS
theorem bigN_le:1180591620717411303424≤bigN:=Classical.choose_spec bigNS

def splitO (ol : List OPl) (y : OS ol) (f : OS ol → Option R) : Option R := f y
theorem splitO_eq (ol : List OPl) (y : OS ol) (f : OS ol → Option R) : splitO ol y f = f y := rfl
/-! ### The places' temporaries -/
def tmND : List DPl → List Nat
  | [] => []
  | .tmp i _ :: r => i :: tmND r
  | .blk _ _ :: r => tmND r
  | .frz _ _ :: r => tmND r
def tmNO : List OPl → List Nat
  | [] => []
  | .otmp i _ _ _ :: r => i :: tmNO r
  | .sblk _ _ :: r => tmNO r
  | .arr _ _ _ :: r => tmNO r
  | .lp _ _ :: r => tmNO r
  | .dfd _ :: r => tmNO r
  | .mpl _ _ _ _ :: r => tmNO r
theorem tmD_get {i : Nat} : ∀ {dl : List DPl} {x : DS dl} {tm : List SV}, i ∉ tmND dl → (tmD dl x tm)[i]? = tm[i]?
  | [], x, tm, h => rfl
  | .tmp j vt :: r, x, tm, h => by
    simp only [tmND, List.mem_cons, not_or] at h
    simp only [tmD]
    rw [tmD_get h.2, lsS_eq, List.getElem?_set, if_neg (Ne.symm h.1)]
  | .blk b t :: r, x, tm, h => by simp only [tmD]; exact tmD_get (dl := r) h
  | .frz b t :: r, x, tm, h => by simp only [tmD]; exact tmD_get (dl := r) h
theorem tmO_get {i : Nat} : ∀ {ol : List OPl} {y : OS ol} {tm : List SV}, i ∉ tmNO ol → (tmO ol y tm)[i]? = tm[i]?
  | [], y, tm, h => rfl
  | .otmp j c nn t :: r, y, tm, h => by
    simp only [tmNO, List.mem_cons, not_or] at h
    simp only [tmO]
    rw [tmO_get h.2, lsS_eq, List.getElem?_set, if_neg (Ne.symm h.1)]
  | .sblk b ks :: r, y, tm, h => by simp only [tmO]; exact tmO_get (ol := r) h
  | .arr b nn t :: r, y, tm, h => by simp only [tmO]; exact tmO_get (ol := r) h
  | .lp b t :: r, y, tm, h => by simp only [tmO]; exact tmO_get (ol := r) h
  | .dfd b :: r, y, tm, h => by simp only [tmO]; exact tmO_get (ol := r) h
  | .mpl _ _ _ _ :: r, y, tm, h => by simp only [tmO]; exact tmO_get (ol := r) h
theorem tmD_len : ∀ {dl : List DPl} {x : DS dl} {tm : List SV}, (tmD dl x tm).length = tm.length
  | [], x, tm => rfl
  | .tmp j vt :: r, x, tm => by simp only [tmD]; rw [tmD_len, lsS_eq]; simp
  | .blk b t :: r, x, tm => by simp only [tmD]; exact tmD_len
  | .frz b t :: r, x, tm => by simp only [tmD]; exact tmD_len
theorem tmO_len : ∀ {ol : List OPl} {y : OS ol} {tm : List SV}, (tmO ol y tm).length = tm.length
  | [], y, tm => rfl
  | .otmp j c nn t :: r, y, tm => by simp only [tmO]; rw [tmO_len, lsS_eq]; simp
  | .sblk b ks :: r, y, tm => by simp only [tmO]; exact tmO_len (ol := r)
  | .arr b nn t :: r, y, tm => by simp only [tmO]; exact tmO_len (ol := r)
  | .lp b t :: r, y, tm => by simp only [tmO]; exact tmO_len (ol := r)
  | .dfd b :: r, y, tm => by simp only [tmO]; exact tmO_len (ol := r)
  | .mpl _ _ _ _ :: r, y, tm => by simp only [tmO]; exact tmO_len (ol := r)
def maskT (as : List Nat) : Nat → List SV → List SV
  | _, [] => []
  | i, v :: r => (bif memN as i then .junk else v) :: maskT as (i + 1) r
theorem maskT_get (as : List Nat) : ∀ (l : List SV) (i j : Nat), (maskT as i l)[j]? = (l[j]?).map fun v => if i + j ∈ as then .junk else v
  | [], i, j => by simp [maskT]
  | v :: l, i, 0 => by
    simp only [maskT, List.getElem?_cons_zero, Option.map_some, Nat.add_zero]
    cases h : memN as i with
    | true => simp [(memN_iff _ _).1 h]
    | false =>
      have : i ∉ as := fun e => by rw [(memN_iff _ _).2 e] at h; cases h
      simp [this]
  | v :: l, i, j + 1 => by
    simp only [maskT, List.getElem?_cons_succ]
    rw [maskT_get as l (i + 1) j]
    have : i + 1 + j = i + (j + 1) := by omega
    rw [this]
theorem maskT_len (as : List Nat) : ∀ (l : List SV) (i : Nat), (maskT as i l).length = l.length
  | [], i => rfl
  | v :: l, i => by simp [maskT, maskT_len as l]
/-- A record of a loop among the places. -/
theorem lp_get {l : Nat} {L : SL} : ∀ (ol : List OPl) (vs : List LSt) (y : OS ol) (pre post : SH), (nmO ol).Nodup → (∀ n ∈ nmO ol, sget pre n = none) → OPl.lp l L ∈ ol → ∃ vs', sget (pre ++ (hpO ol vs y ++ post)) l = some (.loop (stO L vs'))
  | [], vs, y, pre, post, hn, hp, hm => by cases hm
  | .otmp i c nn t :: r, vs, y, pre, post, hn, hp, hm => by
    simp only [nmO, List.nodup_cons] at hn
    simp only [nmO, List.mem_cons, forall_eq_or_imp] at hp
    have hm : OPl.lp l L ∈ r := by simpa using hm
    have := lp_get r vs y.2 (pre ++ [(c, .arr nn t y.1)]) post hn.2 (fun n hm => by
        rw [sget_append, hp.2 n hm]
        show sget [(c, _)] n = none
        rw [sget_cons, if_neg (fun e => hn.1 (by rw [e]; exact hm))]; rfl) hm
    have e : pre ++ [(c, SB.arr nn t y.1)] ++ (hpO r vs y.2 ++ post) = pre ++ (hpO (.otmp i c nn t :: r) vs y ++ post) := by simp [hpO]
    rw [e] at this; exact this
  | .sblk b ks :: r, vs, y, pre, post, hn, hp, hm => by
    simp only [nmO, List.nodup_cons, List.mem_append, not_or, List.nodup_append] at hn
    simp only [nmO, List.mem_cons, List.mem_append, forall_eq_or_imp] at hp
    have hm : OPl.lp l L ∈ r := by simpa using hm
    have := lp_get r vs y.2 (pre ++ (b, .vars (encK ks y.1)) :: arrsK ks y.1) post hn.2.2.1 (fun n hm => by
        rw [sget_append, hp.2 n (.inr hm)]
        show sget ((b, _) :: _) n = none
        rw [sget_cons, if_neg (fun e => hn.1.2 (by rw [e]; exact hm))]
        exact arrsK_none (fun h => hn.2.2.2 n h n hm rfl)) hm
    have e : (pre ++ (b, .vars (encK ks y.1)) :: arrsK ks y.1) ++ (hpO r vs y.2 ++ post) = pre ++ (hpO (.sblk b ks :: r) vs y ++ post) := by
      simp [hpO]
    rw [e] at this; exact this
  | .arr b nn t :: r, vs, y, pre, post, hn, hp, hm => by
    simp only [nmO, List.nodup_cons] at hn
    simp only [nmO, List.mem_cons, forall_eq_or_imp] at hp
    have hm : OPl.lp l L ∈ r := by simpa using hm
    have := lp_get r vs y.2 (pre ++ [(b, .arr nn t y.1)]) post hn.2 (fun n hm => by
        rw [sget_append, hp.2 n hm]
        show sget [(b, _)] n = none
        rw [sget_cons, if_neg (fun e => hn.1 (by rw [e]; exact hm))]; rfl) hm
    have e : (pre ++ [(b, SB.arr nn t y.1)]) ++ (hpO r vs y.2 ++ post) = pre ++ (hpO (.arr b nn t :: r) vs y ++ post) := by simp [hpO]
    rw [e] at this; exact this
  | .lp b L' :: r, vs, y, pre, post, hn, hp, hm => by
    simp only [nmO, List.nodup_cons] at hn
    simp only [nmO, List.mem_cons, forall_eq_or_imp] at hp
    rcases List.mem_cons.1 hm with he | hm
    · cases he
      refine ⟨vs, ?_⟩
      simp only [hpO]
      rw [sget_append, hp.1]
      simp [sget_cons]
    · have := lp_get r vs.tail y.2 (pre ++ [(b, .loop (stO L' vs))]) post hn.2 (fun n hm => by
        rw [sget_append, hp.2 n hm]
        show sget [(b, _)] n = none
        rw [sget_cons, if_neg (fun e => hn.1 (by rw [e]; exact hm))]; rfl) hm
      have e : (pre ++ [(b, SB.loop (stO L' vs))]) ++ (hpO r vs.tail y.2 ++ post) = pre ++ (hpO (.lp b L' :: r) vs y ++ post) := by simp [hpO]
      rw [e] at this; exact this
  | .dfd b :: r, vs, y, pre, post, hn, hp, hm => by
    simp only [nmO, List.nodup_cons] at hn
    simp only [nmO, List.mem_cons, forall_eq_or_imp] at hp
    have hm : OPl.lp l L ∈ r := by simpa using hm
    have := lp_get r vs y.2 (pre ++ [(b, .defd)]) post hn.2 (fun n hm => by
        rw [sget_append, hp.2 n hm]
        show sget [(b, _)] n = none
        rw [sget_cons, if_neg (fun e => hn.1 (by rw [e]; exact hm))]; rfl) hm
    have e : (pre ++ [(b, SB.defd)]) ++ (hpO r vs y.2 ++ post) = pre ++ (hpO (.dfd b :: r) vs y ++ post) := by simp [hpO]
    rw [e] at this; exact this
  | .mpl b k ag t :: r, vs, y, pre, post, hn, hp, hm => by
    simp only [nmO, List.nodup_cons] at hn
    simp only [nmO, List.mem_cons, forall_eq_or_imp] at hp
    have hm : OPl.lp l L ∈ r := by simpa using hm
    have := lp_get r vs y.2 (pre ++ [(b, .mpb k ag t y.1)]) post hn.2 (fun n hm => by
        rw [sget_append, hp.2 n hm]
        show sget [(b, _)] n = none
        rw [sget_cons, if_neg (fun e => hn.1 (by rw [e]; exact hm))]; rfl) hm
    have e : (pre ++ [(b, SB.mpb k ag t y.1)]) ++ (hpO r vs y.2 ++ post) = pre ++ (hpO (.mpl b k ag t :: r) vs y ++ post) := by simp [hpO]
    rw [e] at this; exact this

/-! ### A round -/
def Frm.S (F : Frm) : Type := DS F.dl × OS F.ol
def rdy : List OPl → List LSt
  | [] => []
  | .lp _ _ :: r => (.ready, none) :: rdy r
  | .otmp _ _ _ _ :: r => rdy r
  | .sblk _ _ :: r => rdy r
  | .arr _ _ _ :: r => rdy r
  | .dfd _ :: r => rdy r
  | .mpl _ _ _ _ :: r => rdy r
def bkAll (F : Frm) (vs : List LSt) (tm : List SV) (H : SH) : Option F.S := match bkD F.dl tm H with
  | some (x, H1) => match bkO F.ol vs tm H1 with
    | some (y, σ) => bif srcQ (idD F.dl ++ σ) && nameQ F.lo F.n0 (idD F.dl ++ σ) then some (x, y) else none
    | none => none
  | none => none
theorem bkAll_some {F : Frm} {vs : List LSt} {tm : List SV} {H : SH} {s : F.S} (h : bkAll F vs tm H = some s) : ∃ H1 σ, bkD F.dl tm H = some (s.1, H1) ∧ bkO F.ol vs tm H1 = some (s.2, σ) ∧ srcQ (idD F.dl ++ σ) = true ∧ nameQ F.lo F.n0 (idD F.dl ++ σ) = true := by
  unfold bkAll at h
  split at h
  case h_2 => cases h
  rename_i x H1 h1
  split at h
  case h_2 => cases h
  rename_i y σ h2
  have h6 := cond_some h
  obtain ⟨hq, h3⟩ := h6
  simp only [Bool.and_eq_true] at hq
  cases h3
  exact ⟨H1, σ, h1, h2, hq.1, hq.2⟩
def exitQ : Exit → Exit → Bool
  | .normal, .normal => true
  | .ret, .ret => true
  | .exit i, .exit j => Nat.beq i j
  | .goto i, .goto j => Nat.beq i j
  | _, _ => false
theorem exitQ_eq {a b : Exit} (h : exitQ a b = true) : a = b := by
  unfold exitQ at h
  split at h <;> first | rfl | (rw [Nat.eq_of_beq_eq_true h]) | cases h
def natsQ : List Nat → List Nat → Bool
  | [], [] => true
  | a :: r, b :: s => Nat.beq a b && natsQ r s
  | _, _ => false
theorem natsQ_eq : ∀ {a b : List Nat}, natsQ a b = true → a = b
  | [], [], _ => rfl
  | a :: r, b :: s, h => by
    simp only [natsQ, Bool.and_eq_true] at h
    rw [Nat.eq_of_beq_eq_true h.1, natsQ_eq h.2]
  | [], _ :: _, h => by cases h
  | _ :: _, [], h => by cases h
abbrev Xs := List (Exit × List LSt)
def outK (F : Frm) (S : SRes) : Xs → Nat → Option ((Nat × F.S) ⊕ F.S)
  | [], _ => none
  | (e, vs) :: r, j => bif exitQ S.e e then match bkAll F vs S.tm S.H with
      | some s => some (.inl (j, s))
      | none => outK F S r (j + 1)
    else outK F S r (j + 1)
theorem outK_some {F : Frm} {S : SRes} {r : (Nat × F.S) ⊕ F.S} : ∀ {xs : Xs} {j : Nat}, outK F S xs j = some r → ∃ i vs s, r = .inl (j + i, s) ∧ xs[i]? = some (S.e, vs) ∧ bkAll F vs S.tm S.H = some s
  | [], j, h => by cases h
  | (e, vs) :: xs, j, h => by
    have rec_ : outK F S xs (j + 1) = some r → ∃ i vs' s, r = .inl (j + i, s) ∧ ((e, vs) :: xs)[i]? = some (S.e, vs') ∧ bkAll F vs' S.tm S.H = some s := fun h => by
      obtain ⟨i, vs', s, h1, h2, h3⟩ := outK_some h
      exact ⟨i + 1, vs', s, by rw [h1]; congr 2; omega, by simpa using h2, h3⟩
    simp only [outK] at h
    rcases bif_split h with ⟨h1, h2⟩ | ⟨_, h2⟩
    · split at h2
      · rename_i s hs
        cases h2
        exact ⟨0, vs, s, rfl, by rw [exitQ_eq h1]; rfl, hs⟩
      · exact rec_ h2
    · exact rec_ h2
def roundK (cont : Exit → Bool) (E : (R : Type) → EvS R) (F : Frm) (rd : Option Nat) (c : Code) (ds : List Nat) (M : Nat) (xs : Xs) (s : F.S) : Option ((Nat × F.S) ⊕ F.S) :=
  splitO F.ol s.2 fun y => (E _).code rd c (F.tm s.1 y) ds (F.hp F.HR (rdy F.ol) s.1 y) F.n0 fun S =>
    bif Nat.ble S.nx M && natsQ ds S.ds then bif cont S.e then match bkAll F (rdy F.ol) S.tm S.H with
        | some s' => some (.inr s')
        | none => none
      else outK F S xs 0
    else none
/-- Checked once, of the code. -/
structure Frm.OkC (F : Frm) (c : Code) : Prop extends F.Ok where
  nss : ∀ b ∈ F.ns, ∃ x, reg (sget F.H1 b) = some x
  junk : ∀ i ∈ asg c, ∀ u, F.tm0[i]? = some u → u = .junk
  tmn : ∀ i, i ∈ tmND F.dl ∨ i ∈ tmNO F.ol → i ∈ asg c
theorem Frm.tm_get {F : Frm} {c : Code} (hF : F.OkC c) {x : DS F.dl} {y : OS F.ol} {i : Nat} (hi : i ∉ asg c) : (F.tm x y)[i]? = F.tm0[i]? := by
  unfold Frm.tm
  rw [tmO_get (fun h => hi (hF.tmn i (.inr h))), tmD_get (fun h => hi (hF.tmn i (.inl h)))]
theorem Frm.tm_len {F : Frm} {x : DS F.dl} {y : OS F.ol} : (F.tm x y).length = F.tm0.length := by
  unfold Frm.tm
  rw [tmO_len, tmD_len]
/-- What holds of a state at rest. -/
def Frm.St1 (F : Frm) (ν : Nat → Bool) (vs : List LSt) (s : F.S) : Prop := VN ν F.n0 (F.hp F.HR vs s.1 s.2) ∧ ∀ b ∈ F.ns, reg (sget (F.hp F.HR vs s.1 s.2) b) = reg (sget F.H1 b)
theorem drel_back {φ1 φ2 : Ren} (h : φ1.le φ2) : ∀ {ds : List Nat} {xs ys : List Deferred}, DRel φ1 ds xs → DRel φ2 ds ys → DRel φ1 ds ys
  | [], [], ys, _, h2 => by cases ys <;> simp [DRel] at h2 ⊢
  | d :: ds, x :: xs, y :: ys, h1, h2 => by
    obtain ⟨⟨L, a1, a2⟩, a3⟩ := h1
    obtain ⟨⟨M, b1, b2⟩, b3⟩ := h2
    rw [h d L a1] at b1; cases b1
    exact ⟨⟨L, a1, b2⟩, drel_back h a3 b3⟩
  | [], _ :: _, ys, h1, _ => h1.elim
  | _ :: _, [], ys, h1, _ => h1.elim
  | d :: ds, x :: xs, [], _, h2 => h2.elim
end Go.Fz.Sy
/- The symbolic engine, part ZB: a round of a loop over data. -/
noncomputable section
namespace Go.Fz.Sy
set_option linter.unusedVariables false
set_option linter.unusedSimpArgs false
set_option linter.unusedSectionVars false
variable {P : Program} {φ : Ren} {K : Nat → Prop} {w : World} {R : Type}
section
variable {cont : Exit → Bool} {F : Frm} {c : Code} {rd : Option Nat} {ds : List Nat} {M : Nat} {xs : Xs} {E : (R : Type) → EvS R} {ν : Nat → Bool}
theorem vn_of_reg {G H : SH} {nx : Nat} (h : GLe H G) (v : VN ν nx H) : VN ν nx G := h.vn v
theorem stO_with (L : SL) (vs : List LSt) : ∃ s p, stO L vs = { L with st := s, pend := p } := by
  cases vs with
  | nil => exact ⟨L.st, L.pend, rfl⟩
  | cons v r => exact ⟨v.1, v.2, rfl⟩
theorem Frm.lp_at (hF : F.OkC c) {vs : List LSt} {x : DS F.dl} {y : OS F.ol} {HX : SH} {l : Nat} {L : SL} (hl : OPl.lp l L ∈ F.ol) : ∃ s p, sget (F.hp HX vs x y) l = some (.loop { L with st := s, pend := p }) := by
  have hn := hF.names
  unfold Frm.pn at hn
  rw [List.nodup_append] at hn
  obtain ⟨vs', h⟩ := lp_get F.ol vs y (hpD F.dl x) HX hn.2.1 (fun n hm => hpD_none fun h => hn.2.2 n h n hm rfl) hl
  obtain ⟨s, p, e⟩ := stO_with L vs'
  exact ⟨s, p, by rw [← e]; exact h⟩
/-- What a round comes to, before anything runs. -/
theorem round_st (hE : ∀ R, (E R).Ok P) (hF : F.OkC c) (hvE : VN ν F.lo F.H1) {s : F.S} {r : (Nat × F.S) ⊕ F.S} (h : roundK cont E F rd c ds M xs s = some r) :
    ∃ S : SRes, SCode P rd c (F.tm s.1 s.2) ds (F.hp F.HR (rdy F.ol) s.1 s.2) F.n0 S ∧ S.nx ≤ M ∧ S.ds = ds ∧
      ∃ vs s', bkAll F vs S.tm S.H = some s' ∧ ((cont S.e = true ∧ r = .inr s' ∧ vs = rdy F.ol) ∨ (cont S.e = false ∧ ∃ j, r = .inl (j, s') ∧ xs[j]? = some (S.e, vs))) := by
  unfold roundK at h
  rw [splitO_eq] at h
  obtain ⟨S, h1, h2⟩ := (hE _).code h
  have h6 := cond_some h2
  clear h2
  obtain ⟨hq, h2⟩ := h6
  simp only [Bool.and_eq_true, Nat.ble_eq] at hq
  refine ⟨S, h1, hq.1, (natsQ_eq hq.2).symm, ?_⟩
  rcases bif_split h2 with ⟨he, h2⟩ | ⟨he, h2⟩
  · split at h2
    case h_2 => cases h2
    rename_i s' hs'
    cases h2
    exact ⟨_, s', hs', .inl ⟨he, rfl, rfl⟩⟩
  · obtain ⟨i, vs, s', e1, e2, e3⟩ := outK_some h2
    exact ⟨vs, s', e3, .inr ⟨he, i, by rw [e1]; simp, e2⟩⟩
theorem round_st1 (hE : ∀ R, (E R).Ok P) (hF : F.OkC c) (hvE : VN ν F.lo F.H1) {s : F.S} {S : SRes} (hS : SCode P rd c (F.tm s.1 s.2) ds (F.hp F.HR (rdy F.ol) s.1 s.2) F.n0 S) (h0 : F.St1 ν (rdy F.ol) s) {vs : List LSt} {s' : F.S} (hb : bkAll F vs S.tm S.H = some s') : F.St1 ν vs s' := by
  obtain ⟨H1, σ, b1, b2, b3, b4⟩ := bkAll_some hb
  obtain ⟨a1, a2, a3, a4, a5⟩ := hS
  have hg := (bkD_ghost b1).1
  obtain ⟨q1, q2, q3, q4⟩ := refold_st hF.toOk hvE (hg.vn (a5 ν h0.1).1) b1 b2 b4 (fun b hb => by
    obtain ⟨z, hz⟩ := hF.nss b hb
    rw [hg.reg b, hz]
    exact a1 b z (by rw [h0.2 b hb]; exact hz))
  exact ⟨q4, q3⟩
theorem round_run (hE : ∀ R, (E R).Ok P) (hF : F.OkC c) {φ1 : Ren} {wE : World} (gE : Good φ1 (denH ν F.H1) K wE) (hfr : Fresh φ1 F.lo M) (hM : F.n0 ≤ M) (hvE : VN ν F.lo F.H1) {rc : Option Nat} (hrd : RRel φ1 rd rc)
    {s : F.S} {S : SRes} (hS : SCode P rd c (F.tm s.1 s.2) ds (F.hp F.HR (rdy F.ol) s.1 s.2) F.n0 S) (hnx : S.nx ≤ M) (hds : S.ds = ds) {vs : List LSt} {s' : F.S} (hb : bkAll F vs S.tm S.H = some s')
    {φ : Ren} {a : Act} (hI : F.Seen K φ1 wE ν F.HR (rdy F.ol) s.1 s.2 φ w a.tmps) (hd : DRel φ1 ds a.defers) :
    c.wpIn (fw rc) 0 P (fun e a' w' => e = S.e ∧ ∃ φ', F.Seen K φ1 wE ν F.HR vs s'.1 s'.2 φ' w' a'.tmps ∧ DRel φ1 ds a'.defers) a w := by
  obtain ⟨H1, σ, b1, b2, b3, b4⟩ := bkAll_some hb
  obtain ⟨a1, a2, a3, a4, a5⟩ := hS
  obtain ⟨v1, o1⟩ := a5 ν hI.vn
  have hfr2 : Fresh φ F.n0 S.nx := ⟨Nat.le_trans hnx hfr.1, fun b h1 h2 => by
    rw [hI.ext.2.1 b (by have := hfr.1; omega) (.inr h1)]
    exact hfr.2 b (by have := hF.le; omega) (by omega)⟩
  refine wpIn_mono (o1.2 φ w _ a rc hI.good hfr2 hI.tms (hd.mono hI.ext.1) (hrd.mono hI.ext.1)) ?_
  rintro e a' w' ⟨rfl, φ', k1, k2, k3, k4, k5⟩
  refine ⟨rfl, ?_⟩
  have hg := bkD_ghost b1
  obtain ⟨φ'', m1, m2⟩ := hg.2 ν φ' _ w' k2
  have t3 : TRel φ'' (denL (rho ν H1) S.tm) a'.tmps := by rw [hg.1.rho ν]; exact k3.mono (m1 0).1
  have hS' : RegLe (F.hp F.HR (rdy F.ol) s.1 s.2) H1 := a1.trans hg.1.regLe
  obtain ⟨φ3, h3⟩ := refold (F := F) (K := K) (φ1 := φ1) (φ2 := φ'') (wE := wE) (ν := ν) (M := M) (vs := vs) (x := s'.1) (y := s'.2) (ts := a'.tmps) hF.toOk gE hfr hM hvE
    (((hI.ext.trans k1 hF.le a4).wide (Nat.le_refl _) hnx).comp ((m1 S.nx).wide (by have := hF.le; omega) hnx)) (hI.went.trans k5) m2 m2 (hg.1.vn v1) b1 b2 b3 b4 (fun p _ => rfl)
    (fun b hb => by
      obtain ⟨z, hz⟩ := hF.nss b hb
      rw [hz]
      exact hS' b z (by rw [hI.regs b hb]; exact hz))
    t3 (by rw [a3.1]; exact Frm.tm_len)
    (fun i u hu hj => by
      have hi : i ∉ asg c := fun h => hj (hF.junk i h u hu)
      rw [a3.2 i hi, Frm.tm_get hF hi]; exact hu)
    (fun l L hl L' hL' => by
      obtain ⟨s0, p0, h0⟩ := Frm.lp_at hF (HX := F.HR) (vs := rdy F.ol) (x := s.1) (y := s.2) hl
      obtain ⟨s1, p1, h1⟩ := (a2.trans hg.1.lkeep) l _ h0
      rw [hL'] at h1; cases h1
      exact ⟨s1, p1, rfl⟩)
  exact ⟨φ3, h3, drel_back (Ren.le_trans hI.ext.1 k1.1) hd (by rw [← hds]; exact k4)⟩
end
end Go.Fz.Sy
/- The symbolic engine, part ZC: a loop over data, begun and left. -/
noncomputable section
namespace Go.Fz.Sy
set_option linter.unusedVariables false
set_option linter.unusedSimpArgs false
set_option linter.unusedSectionVars false
variable {P : Program} {φ : Ren} {K : Nat → Prop} {w : World} {R : Type}
theorem hget_cons (b : Nat) (k : Blk) (r : Hp) (n : Nat) : Hp.get ((b, k) :: r) n = if b = n then some k else Hp.get r n := by
  show (bif Nat.beq b n then some k else Hp.get r n) = _
  rw [beq_if]
def onlyH (l : List Nat) : Hp → Hp
  | [] => []
  | (b, k) :: r => bif memN l b then (b, k) :: onlyH l r else onlyH l r
theorem onlyH_get (l : List Nat) (n : Nat) : ∀ H : Hp, (onlyH l H).get n = if n ∈ l then H.get n else none
  | [] => by simp [onlyH, Hp.get_nil]
  | (b, k) :: r => by
    have ih := onlyH_get l n r
    simp only [onlyH]
    cases hm : memN l b with
    | true =>
      have hb := (memN_iff _ _).1 hm
      rw [cond_true, hget_cons, hget_cons]
      by_cases h : b = n
      · subst h; simp [hb]
      · rw [if_neg h, if_neg h]; exact ih
    | false =>
      have hb : b ∉ l := fun h => by rw [(memN_iff _ _).2 h] at hm; cases hm
      rw [cond_false, hget_cons]
      by_cases h : b = n
      · subst h; rw [if_neg hb]; simpa [hb] using ih
      · rw [if_neg h]; exact ih
theorem app3_congr {α : Type} {A B C C' : SH} {b : Nat} {f : Option SB → α} (h : f (sget C b) = f (sget C' b)) : f (sget (A ++ (B ++ C)) b) = f (sget (A ++ (B ++ C')) b) := by
  cases hA : sget A b with
  | some k => simp only [sget_append, hA]
  | none => cases hB : sget B b with
    | some k => simp only [sget_append, hA, hB]
    | none => simp only [sget_append, hA, hB]; exact h
section
variable {F : Frm} {c : Code} {rd : Option Nat} {ds : List Nat} {M : Nat} {xs : Xs} {E : (R : Type) → EvS R} {ν : Nat → Bool}
/-- The blocks that are turned, at the beginning. -/
theorem good_only {φ1 : Ren} {wE : World} {l : List Nat} (gE : Good φ1 (denH ν F.H1) K wE) (hl : ∀ b ∈ l, (denHr ν (rho ν F.H1) F.HR).get b = none) : Good φ1 (onlyH l (denH ν F.H1)) (F.KX K φ1 ν) wE := by
  have hsub : ∀ b k, (onlyH l (denH ν F.H1)).get b = some k → b ∈ l ∧ (denH ν F.H1).get b = some k := fun b k hb => by
    rw [onlyH_get] at hb
    split at hb
    · rename_i h; exact ⟨h, hb⟩
    · cases hb
  have hR : ∀ b k, (denHr ν (rho ν F.H1) F.HR).get b = some k → b ∉ l ∧ ∃ kE, (denH ν F.H1).get b = some kE := fun b k hb => by
    have hb0 := hb
    rw [denHr_get] at hb
    cases hk : sget F.HR b with
    | none => rw [hk] at hb; cases hb
    | some kv =>
      rw [hk] at hb
      refine ⟨fun h => (by rw [hl b h] at hb0; cases hb0), ?_⟩
      have hk0 := hk
      unfold Frm.HR at hk
      rw [selS_get] at hk
      split at hk
      · cases hk
      · rw [Option.map_eq_some_iff] at hk
        obtain ⟨kH, hkH, rfl⟩ := hk
        rw [denH_get, hkH]
        simp only [Option.bind_some] at hb ⊢
        cases kH with
        | vars cs => exact ⟨_, rfl⟩
        | ro cs => exact ⟨_, rfl⟩
        | arr nn t l =>
          cases hm : memN F.mv b with
          | true => simp [viewB, hm, denB] at hb
          | false => simp only [viewB, hm, cond_false, denB] at hb ⊢; cases hn : nilA nn l <;> rw [hn] at hb <;> first | cases hb; done | exact ⟨_, rfl⟩
        | roa nn t l => exact ⟨k, hb⟩
        | fro nn t l => exact ⟨k, hb⟩
        | gone s n => simp [viewB, denB] at hb
        | loop L => exact ⟨_, rfl⟩
        | defd => exact ⟨_, rfl⟩
        | hid => exact ⟨_, rfl⟩
        | mpb k ag t l => exact ⟨_, rfl⟩
        | abs => simp [viewB, denB] at hb
  refine ⟨fun b k hb => gE.rel b k (hsub b k hb).2, fun b c k k' L L' hb hc hne hk hL hL' => gE.sep b c k k' L L' (hsub b k hb).2 (hsub c k' hc).2 hne hk hL hL', fun b k L hb hk hL => ?_, fun c hc => ?_, gE.fz, fun b k L c M hb hk hL hM => gE.fsep b k L c M (hsub b k hb).2 hk hL hM⟩
  · obtain ⟨h1, h2⟩ := hsub b k hb
    rintro (h | ⟨b', k', L', q1, q2, q3⟩)
    · exact gE.prot b k L h2 hk hL h
    · obtain ⟨e1, kE, e2⟩ := hR b' k' q1
      exact gE.sep b b' k kE L L' h2 e2 (fun e => e1 (e ▸ h1)) hk hL q2 q3.symm
  · rcases hc with h | ⟨b', k', L', q1, q2, q3⟩
    · exact gE.kin c h
    · obtain ⟨e1, kE, e2⟩ := hR b' k' q1
      rw [← q3]
      exact (gE.at e2 q2).lt
theorem hf_reg {vs : List LSt} {x : DS F.dl} {y : OS F.ol} (b : Nat) : reg (sget (F.hp F.HF vs x y) b) = reg (sget (F.hp F.HR vs x y) b) := by
  refine app3_congr (f := reg) ?_
  unfold Frm.HF Frm.HR
  rw [selS_get, selS_get]
  split
  · rfl
  · cases sget F.H1 b with
    | none => rfl
    | some k => simp only [Option.map_some]; rw [viewB_reg, backB_reg]
/-- A loop's end: the blocks that were only read are as they were. -/
theorem seen_out (hF : F.OkC c) {φ1 φ3 : Ren} {wE : World} (gE : Good φ1 (denH ν F.H1) K wE) (hvE : VN ν F.lo F.H1) {vs : List LSt} {s : F.S} {ts : Array Value} (hall : ∀ b x, reg (sget F.H1 b) = some x → b ∈ F.ns)
    (h : F.Seen K φ1 wE ν F.HR vs s.1 s.2 φ3 w ts) (hrw : ∀ b k, b ∈ F.pn → (denH ν (F.hp F.HR vs s.1 s.2)).get b = some k → k.rw = true) :
    Good φ3 (denH ν (F.hp F.HF vs s.1 s.2)) K w ∧ TRel φ3 (denL (rho ν (F.hp F.HF vs s.1 s.2)) (F.tm s.1 s.2)) ts := by
  have hreg : ∀ b, reg (sget (F.hp F.HF vs s.1 s.2) b) = reg (sget (F.hp F.HR vs s.1 s.2) b) := fun b => by
    refine app3_congr (f := reg) ?_
    unfold Frm.HF Frm.HR
    rw [selS_get, selS_get]
    split
    · rfl
    · cases sget F.H1 b with
      | none => rfl
      | some k => simp only [Option.map_some]; rw [viewB_reg, backB_reg]
  have hrho : rho ν (F.hp F.HF vs s.1 s.2) = rho ν (F.hp F.HR vs s.1 s.2) := rho_congr hreg ν
  have hle : RLe (rho ν F.H1) (rho ν (F.hp F.HR vs s.1 s.2)) := rho_le ν fun b x hx => by rw [h.regs b (hall b x hx)]; exact hx
  have gE' : Good φ1 (denHr ν (rho ν (F.hp F.HR vs s.1 s.2)) F.H1) K wE := good_rho (rho_junk ν F.H1) hle gE
  refine ⟨?_, by rw [hrho]; exact h.tms⟩
  -- what the loop protects does not hang on ρ
  have hKX : F.KX K φ1 ν = KX K φ1 (denHr ν (rho ν F.H1) F.HR) := rfl
  refine good_restore (HE := denHr ν (rho ν (F.hp F.HR vs s.1 s.2)) F.H1) (HR := denHr ν (rho ν F.H1) F.HR) (H1 := denH ν (F.hp F.HR vs s.1 s.2)) gE' h.ext.1 (fun b L hL => h.ext.2.2 b L hL) h.went h.good ?_
  intro b k hb
  rw [denH_get, hrho] at hb
  by_cases hp : b ∈ F.pn
  · have e : sget (F.hp F.HF vs s.1 s.2) b = sget (F.hp F.HR vs s.1 s.2) b := by
      refine app3_congr (f := id) ?_
      unfold Frm.HF Frm.HR
      rw [selS_get, selS_get, if_pos hp, if_pos hp]
    rw [e] at hb
    have hb2 : (denH ν (F.hp F.HR vs s.1 s.2)).get b = some k := by rw [denH_get]; exact hb
    exact .inl ⟨hb2, hrw b k hp hb2⟩
  · have h1 : b ∉ nmD F.dl := fun h => hp (by simp [Frm.pn, h])
    have h2 : b ∉ nmO F.ol := fun h => hp (by simp [Frm.pn, h])
    unfold Frm.hp at hb
    rw [sget_append, hpD_none h1] at hb
    simp only at hb
    rw [sget_append, hpO_none h2] at hb
    simp only at hb
    unfold Frm.HF at hb
    rw [selS_get, if_neg hp] at hb
    cases hk : sget F.H1 b with
    | none => rw [hk] at hb; cases hb
    | some kH =>
      rw [hk] at hb
      simp only [Option.map_some, Option.bind_some] at hb
      have hkb : denB (rho ν (F.hp F.HR vs s.1 s.2)) (ν b) kH = some k := by
        cases kH with
        | arr nn t l =>
          cases hm : memN F.mv b with
          | true => simp [backB, hm, denB] at hb
          | false => simp only [backB, hm, cond_false] at hb; exact hb
        | _ => exact hb
      refine .inr ⟨by rw [denHr_get, hk]; exact hkb, ?_⟩
      rw [denHr_get]
      have : sget F.HR b = some (viewB F.ns F.mv F.lo b kH) := by
        unfold Frm.HR
        rw [selS_get, if_neg hp, hk]; rfl
      rw [this]
      simp only [Option.bind_some]
      cases kH with
      | vars cs => simp only [viewB]; cases lowL F.ns F.lo cs <;> exact ⟨_, rfl⟩
      | ro cs => simp only [viewB]; cases lowL F.ns F.lo cs <;> exact ⟨_, rfl⟩
      | arr nn t l =>
        cases hm : memN F.mv b with
        | true => simp [backB, hm, denB] at hb
        | false =>
          simp only [denB] at hkb
          simp only [viewB, hm, cond_false, denB]
          cases hn : nilA nn l <;> rw [hn] at hkb <;> first | cases hkb; done | exact ⟨_, rfl⟩
      | roa nn t l => exact ⟨k, hkb⟩
      | fro nn t l => exact ⟨k, hkb⟩
      | gone s n => simp [denB] at hkb
      | loop L => exact ⟨_, rfl⟩
      | defd => exact ⟨_, rfl⟩
      | hid => exact ⟨_, rfl⟩
      | mpb k ag t l => exact ⟨_, rfl⟩
      | abs => simp [denB] at hkb
/-- Blocks that are turned can be written. -/
theorem pn_rw {vs : List LSt} {x : DS F.dl} {y : OS F.ol} {b : Nat} {k : Blk} (hp : b ∈ F.pn) (h : (denH ν (F.hp F.HR vs x y)).get b = some k) : k.rw = true := by
  rw [denH_get] at h
  cases hk : sget (F.hp F.HR vs x y) b with
  | none => rw [hk] at h; cases h
  | some kS =>
    rw [hk] at h
    simp only [Option.bind_some] at h
    have hD : ∀ (dl : List DPl) (x : DS dl), sget (hpD dl x) b = some kS → ∃ cs, kS = .vars cs := by
      intro dl
      induction dl with
      | nil => intro x h; cases h
      | cons p r ih =>
        intro x h
        cases p with
        | tmp i vt => exact ih x.2 h
        | blk b0 t =>
          simp only [hpD] at h
          rw [sget_cons] at h
          split at h
          · cases h; exact ⟨_, rfl⟩
          · exact ih x.2 h
        | frz b0 ks => exact ih x.2 h
    have hO : ∀ (ol : List OPl) (vs : List LSt) (y : OS ol), sget (hpO ol vs y) b = some kS → (∃ cs, kS = .vars cs) ∨ (∃ nn t l, kS = .arr nn t l) ∨ (∃ L, kS = .loop L) ∨ kS = .defd ∨ ∃ k' ag t l, kS = .mpb k' ag t l := by
      intro ol
      induction ol with
      | nil => intro vs y h; cases h
      | cons p r ih =>
        intro vs y h
        cases p with
        | otmp i c nn t =>
          simp only [hpO] at h
          rw [sget_cons] at h
          split at h
          · cases h; exact .inr (.inl ⟨_, _, _, rfl⟩)
          · exact ih _ _ h
        | sblk b0 ks =>
          simp only [hpO] at h
          rw [sget_cons] at h
          split at h
          · cases h; exact .inl ⟨_, rfl⟩
          · rw [sget_append] at h
            split at h
            · rename_i kk hkk
              cases h
              have hk2 : ∀ (ks : List CK) (x : CS ks), sget (arrsK ks x) b = some kS → ∃ nn t l, kS = .arr nn t l := fun ks => by
                induction ks with
                | nil => intro x h; cases h
                | cons q ks ihk =>
                  intro x h
                  cases q with
                  | d t => exact ihk _ h
                  | o c nn t =>
                    simp only [arrsK] at h
                    rw [sget_cons] at h
                    split at h
                    · cases h; exact ⟨_, _, _, rfl⟩
                    · exact ihk _ h
              exact .inr (.inl (hk2 _ _ hkk))
            · exact ih _ _ h
        | arr b0 nn t =>
          simp only [hpO] at h
          rw [sget_cons] at h
          split at h
          · cases h; exact .inr (.inl ⟨_, _, _, rfl⟩)
          · exact ih _ _ h
        | lp b0 L =>
          simp only [hpO] at h
          rw [sget_cons] at h
          split at h
          · cases h; exact .inr (.inr (.inl ⟨_, rfl⟩))
          · exact ih _ _ h
        | dfd b0 =>
          simp only [hpO] at h
          rw [sget_cons] at h
          split at h
          · cases h; exact .inr (.inr (.inr (.inl rfl)))
          · exact ih _ _ h
        | mpl b0 k0 ag0 t0 =>
          simp only [hpO] at h
          rw [sget_cons] at h
          split at h
          · cases h; exact .inr (.inr (.inr (.inr ⟨_, _, _, _, rfl⟩)))
          · exact ih _ _ h
    unfold Frm.hp at hk
    rw [sget_append] at hk
    have fin : ((∃ cs, kS = .vars cs) ∨ (∃ nn t l, kS = .arr nn t l) ∨ (∃ L, kS = .loop L) ∨ kS = .defd ∨ ∃ k' ag t l, kS = .mpb k' ag t l) → k.rw = true := by
      rintro (⟨cs, rfl⟩ | ⟨nn, t, l, rfl⟩ | ⟨L, rfl⟩ | rfl | ⟨k', ag, t, l, rfl⟩)
      · simp only [denB, Option.some.injEq] at h; subst h; rfl
      · simp only [denB] at h
        cases hn : nilA nn l <;> rw [hn] at h <;> cases h
        rfl
      · simp only [denB, Option.some.injEq] at h; subst h; rfl
      · simp only [denB, Option.some.injEq] at h; subst h; rfl
      · simp only [denB, Option.some.injEq] at h; subst h; rfl
    split at hk
    · rename_i h1; cases hk; exact fin (.inl (hD _ _ h1))
    · rw [sget_append] at hk
      split at hk
      · rename_i h1; cases hk; exact fin (hO _ _ _ h1)
      · unfold Frm.HR at hk
        rw [selS_get, if_pos hp] at hk; cases hk
end
end Go.Fz.Sy
/- The symbolic engine, part ZD: loops over data, the whole. -/
noncomputable section
namespace Go.Fz.Sy
set_option linter.unusedVariables false
set_option linter.unusedSimpArgs false
set_option linter.unusedSectionVars false
variable {P : Program} {φ : Ren} {K : Nat → Prop} {w : World} {R : Type}

/-- A guess at a loop's places; how many names the arrays take. -/
abbrev Plan := Code → List SV → SH → Nat → Option (List DPl × List OPl × Nat)
def lpsOf (ns : List Nat) (lo : Nat) (H : SH) : List Nat → List OPl
  | [] => []
  | l :: r => match sget H l with
    | some (.loop L) => bif lowL ns lo L.tm && (Nat.blt L.dfr lo && stQ L [(.ready, none)]) then .lp l L :: lpsOf ns lo H r else lpsOf ns lo H r
    | some .defd => .dfd l :: lpsOf ns lo H r
    | _ => lpsOf ns lo H r
theorem lpsOf_ok {ns : List Nat} {lo : Nat} {H : SH} {l : Nat} {L : SL} : ∀ {ls : List Nat}, OPl.lp l L ∈ lpsOf ns lo H ls → lowL ns lo L.tm = true ∧ L.dfr < lo ∧ sget H l = some (.loop L)
  | [], h => by cases h
  | m :: r, h => by
    simp only [lpsOf] at h
    split at h
    · rename_i L' hL
      rw [show (bif lowL ns lo L'.tm && (Nat.blt L'.dfr lo && stQ L' [(.ready, none)]) then OPl.lp m L' :: lpsOf ns lo H r else lpsOf ns lo H r) = if (lowL ns lo L'.tm && (Nat.blt L'.dfr lo && stQ L' [(.ready, none)])) = true then OPl.lp m L' :: lpsOf ns lo H r else lpsOf ns lo H r from by cases (lowL ns lo L'.tm && (Nat.blt L'.dfr lo && stQ L' [(.ready, none)])) <;> rfl] at h
      split at h
      · rename_i hq
        rcases List.mem_cons.1 h with he | h
        · cases he
          simp only [Bool.and_eq_true, Nat.blt_eq] at hq
          exact ⟨hq.1, hq.2.1, hL⟩
        · exact lpsOf_ok h
      · exact lpsOf_ok h
    · have h : OPl.lp l L ∈ lpsOf ns lo H r := by simpa using h
      exact lpsOf_ok h
    · exact lpsOf_ok h
def nsOf (H : SH) : List Nat → List Nat
  | [] => []
  | b :: r => match reg (sget H b) with
    | some _ => b :: nsOf H r
    | none => nsOf H r
theorem nsOf_mem {H : SH} {b : Nat} : ∀ {l : List Nat}, b ∈ nsOf H l → ∃ x, reg (sget H b) = some x
  | [], h => by cases h
  | c :: r, h => by
    simp only [nsOf] at h
    split at h
    · rename_i x hx
      rcases List.mem_cons.1 h with he | h
      · subst he; exact ⟨x, hx⟩
      · exact nsOf_mem h
    · exact nsOf_mem h
theorem nsOf_all {H : SH} {b : Nat} {x : Nat × Nat} (hx : reg (sget H b) = some x) : ∀ {l : List Nat}, b ∈ l → b ∈ nsOf H l
  | [], h => by cases h
  | c :: r, h => by
    simp only [nsOf]
    rcases List.mem_cons.1 h with he | h
    · subst he; rw [hx]; simp
    · split
      · exact List.mem_cons_of_mem _ (nsOf_all hx h)
      · exact nsOf_all hx h
theorem namesS_mem {b : Nat} {k : SB} : ∀ {H : SH}, sget H b = some k → b ∈ namesS H
  | [], h => by cases h
  | (c, x) :: r, h => by
    rw [sget_cons] at h
    split at h
    · rename_i he; simp [namesS, he]
    · simp [namesS, namesS_mem h]
def nodupB : List Nat → Bool
  | [] => true
  | a :: r => !memN r a && nodupB r
theorem nodupB_ok : ∀ {l : List Nat}, nodupB l = true → l.Nodup
  | [], _ => List.nodup_nil
  | a :: r, h => by
    simp only [nodupB, Bool.and_eq_true, Bool.not_eq_true'] at h
    refine List.nodup_cons.2 ⟨fun hm => ?_, nodupB_ok h.2⟩
    rw [(memN_iff _ _).2 hm] at h; cases h.1
def noLp : List OPl → Bool
  | [] => true
  | .lp _ _ :: _ => false
  | .otmp _ _ _ _ :: r => noLp r
  | .sblk _ _ :: r => noLp r
  | .arr _ _ _ :: r => noLp r
  | .dfd _ :: r => noLp r
  | .mpl _ _ _ _ :: r => noLp r
theorem noLp_ok {l : Nat} {L : SL} : ∀ {ol : List OPl}, noLp ol = true → OPl.lp l L ∉ ol
  | [], _, h => by cases h
  | .lp _ _ :: r, h, _ => by simp [noLp] at h
  | .otmp _ _ _ _ :: r, h, hm => noLp_ok (ol := r) h (by simpa using hm)
  | .sblk _ _ :: r, h, hm => noLp_ok (ol := r) h (by simpa using hm)
  | .arr _ _ _ :: r, h, hm => noLp_ok (ol := r) h (by simpa using hm)
  | .dfd _ :: r, h, hm => noLp_ok (ol := r) h (by simpa using hm)
  | .mpl _ _ _ _ :: r, h, hm => noLp_ok (ol := r) h (by simpa using hm)
def lpN : List OPl → List Nat
  | [] => []
  | .lp l _ :: r => l :: lpN r
  | .otmp _ _ _ _ :: r => lpN r
  | .sblk _ _ :: r => lpN r
  | .arr _ _ _ :: r => lpN r
  | .dfd _ :: r => lpN r
  | .mpl _ _ _ _ :: r => lpN r
theorem lpN_mem {l : Nat} : ∀ {ol : List OPl}, l ∈ lpN ol → ∃ L, OPl.lp l L ∈ ol
  | [], h => by cases h
  | .lp m L :: r, h => by
    simp only [lpN, List.mem_cons] at h
    rcases h with rfl | h
    · exact ⟨L, by simp⟩
    · obtain ⟨L', h'⟩ := lpN_mem h; exact ⟨L', List.mem_cons_of_mem _ h'⟩
  | .otmp _ _ _ _ :: r, h => by obtain ⟨L', h'⟩ := lpN_mem (ol := r) h; exact ⟨L', List.mem_cons_of_mem _ h'⟩
  | .sblk _ _ :: r, h => by obtain ⟨L', h'⟩ := lpN_mem (ol := r) h; exact ⟨L', List.mem_cons_of_mem _ h'⟩
  | .arr _ _ _ :: r, h => by obtain ⟨L', h'⟩ := lpN_mem (ol := r) h; exact ⟨L', List.mem_cons_of_mem _ h'⟩
  | .dfd _ :: r, h => by obtain ⟨L', h'⟩ := lpN_mem (ol := r) h; exact ⟨L', List.mem_cons_of_mem _ h'⟩
  | .mpl _ _ _ _ :: r, h => by obtain ⟨L', h'⟩ := lpN_mem (ol := r) h; exact ⟨L', List.mem_cons_of_mem _ h'⟩
def frmQ (F : Frm) (c : Code) : Bool :=
  nodupB F.pn && (F.ns.all (fun b => Nat.blt b F.lo) && (regQ F.ns F.dl F.ol && (lowL F.ns F.lo F.tm0 && ((tmND F.dl ++ tmNO F.ol).all (memN (asg c)) && (namesS F.H1).all fun l => match sget F.H1 l with
    | some (.loop _) => memN (lpN F.ol) l || !memN F.pn l
    | _ => true))))
def srcR (F : Frm) (σ : List (Nat × Nat)) : Bool := σ.all fun p => match sget F.HR p.2 with
  | none => true
  | some (.gone _ _) => true
  | _ => false
def mvOf : List (Nat × Nat) → List Nat
  | [] => []
  | p :: r => bif Nat.beq p.1 p.2 then mvOf r else p.2 :: mvOf r
/-! ### How a round may end -/
def addE (e : Exit) (l : List Exit) : List Exit := bif l.any (exitQ e) then l else e :: l
def uniE : List Exit → List Exit → List Exit
  | [], l => l
  | e :: r, l => addE e (uniE r l)
def exitsC : Code → List Exit
  | .exit i => [.exit i]
  | .goto i => [.goto i]
  | .ret => [.ret]
  | .seq a b => uniE (exitsC a) (exitsC b)
  | .cond _ a b => uniE (exitsC a) (exitsC b)
  | .block i c => (exitsC c).filter fun e => !exitQ e (.exit i)
  | .loop c => exitsC c
  | .scope c => exitsC c
  | .rangeFunc _ _ _ b => exitsC b
  | _ => []
def stsE : List Exit → List LSt
  | [] => []
  | e :: r => match roundEnd e with
    | some (_, s, p) => (s, p) :: stsE r
    | none => stsE r
def varsO : List OPl → List (List LSt)
  | [] => [[]]
  | .lp _ L :: r => match varsO r with
    | vs => ((.ready, none) :: stsE (exitsC L.body)).flatMap fun s => vs.map fun v => s :: v
  | .otmp _ _ _ _ :: r => varsO r
  | .sblk _ _ :: r => varsO r
  | .arr _ _ _ :: r => varsO r
  | .dfd _ :: r => varsO r
  | .mpl _ _ _ _ :: r => varsO r
def xsOf (xq : Exit → Bool) (c : Code) (ol : List OPl) : Xs := ((exitsC c).filter xq).flatMap fun e => (varsO ol).map fun v => (e, v)
def pickX : Xs → Nat → Nat → (Exit × List LSt → Option R) → Option R
  | [], _, _, _ => none
  | [v], _, _, f => f v
  | v :: u :: r, i, j, f => bif Nat.beq j i then f v else pickX (u :: r) (i + 1) j f
theorem pickX_at {f : Exit × List LSt → Option R} {v : Exit × List LSt} : ∀ {xs : Xs} {i n : Nat}, xs[n]? = some v → pickX xs i (i + n) f = f v
  | [], i, n, h => by simp at h
  | [u], i, n, h => by
    cases n with
    | zero => simp at h; subst h; rfl
    | succ n => simp at h
  | a :: b :: r, i, n, h => by
    simp only [pickX]
    rw [beq_if]
    cases n with
    | zero => simp at h; subst h; simp
    | succ n =>
      rw [if_neg (by omega)]
      have := pickX_at (f := f) (xs := b :: r) (i := i + 1) (n := n) (by simpa using h)
      rw [← this]; congr 1; omega
/-- A loop over data: what it makes of its state, and what follows. -/
def loopF (cont : Exit → Bool) (E : (R : Type) → EvS R) (F : Frm) (rd : Option Nat) (c : Code) (ds : List Nat) (M : Nat) (xs : Xs) (s0 : F.S) (k : KC R) : Option R :=
  match iterK (roundK cont E F rd c ds M xs) bigN s0 with
  | some (j, s) => splitO F.ol s.2 fun y => pickX xs 0 j fun v => k ⟨v.1, F.tm s.1 y, ds, F.hp F.HF v.2 s.1 y, M⟩
  | none => none
def frmOf (dl : List DPl) (ol : List OPl) (g : Nat) (c : Code) (tm : List SV) (nx : Nat) (H1 : SH) (ns : List Nat) (σ : List (Nat × Nat)) : Frm := ⟨dl, ol, maskT (asg c) 0 tm, ns, mvOf σ, nx, nx + g, H1⟩
def loopG (cont : Exit → Bool) (xq : Exit → Bool) (E : (R : Type) → EvS R) (dl : List DPl) (ol0 : List OPl) (g : Nat) (rd : Option Nat) (c : Code) (tm : List SV) (ds : List Nat) (nx sp : Nat) (x0 : DS dl) (H1 : SH) (k : KC R) : Option R :=
  match nsOf H1 (namesS H1) with
  | ns => match lpsOf ns nx H1 (namesS H1) with
    | lps => match bkO (ol0 ++ lps) (rdy (ol0 ++ lps)) tm H1 with
      | some (y0, σ) => bif noLp ol0 && (frmQ (frmOf dl (ol0 ++ lps) g c tm nx H1 ns σ) c && (srcQ (idD dl ++ σ) && (nameQ nx (nx + g) (idD dl ++ σ) && srcR (frmOf dl (ol0 ++ lps) g c tm nx H1 ns σ) (idD dl ++ σ)))) then
          loopF cont E (frmOf dl (ol0 ++ lps) g c tm nx H1 ns σ) rd c ds (nx + g + sp) (xsOf xq c (ol0 ++ lps)) (x0, y0) k
        else none
      | none => none
def loopK (cont : Exit → Bool) (xq : Exit → Bool) (E : (R : Type) → EvS R) (pl : Plan) (rd : Option Nat) (c : Code) (tm : List SV) (ds : List Nat) (H : SH) (nx sp : Nat) (k : KC R) : Option R := match pl c tm H nx with
  | some (dl, ol0, g) => match bkD dl tm H with
    | some (x0, H1) => loopG cont xq E dl ol0 g rd c tm ds nx sp x0 H1 k
    | none => none
  | none => none
theorem frmQ_ok {F : Frm} {c : Code} (h : frmQ F c = true) (hle : F.lo ≤ F.n0) (hlp : ∀ l L, OPl.lp l L ∈ F.ol → lowL F.ns F.lo L.tm = true ∧ L.dfr < F.lo ∧ sget F.H1 l = some (.loop L)) (hns : ∀ b ∈ F.ns, ∃ x, reg (sget F.H1 b) = some x) {tm : List SV} (htm : F.tm0 = maskT (asg c) 0 tm) :
    F.OkC c ∧ ∀ l L, sget F.H1 l = some (.loop L) → l ∈ F.pn → OPl.lp l L ∈ F.ol := by
  unfold frmQ at h
  simp only [Bool.and_eq_true] at h
  obtain ⟨h1, h2, h3, h4, h5, h6⟩ := h
  rw [List.all_eq_true] at h2 h5 h6
  refine ⟨⟨⟨nodupB_ok h1, fun b hb => by have := h2 b hb; simpa using this, h3, hlp, h4, hle⟩, hns, fun i hi u hu => ?_, fun i hi => ?_⟩, fun l L hl hp => ?_⟩
  · rw [htm, maskT_get] at hu
    rw [Option.map_eq_some_iff] at hu
    obtain ⟨v, hv, rfl⟩ := hu
    simp [hi]
  · have := h5 i (by simpa using hi)
    exact (memN_iff _ _).1 this
  · have := h6 l (namesS_mem hl)
    rw [hl] at this
    simp only [Bool.or_eq_true, Bool.not_eq_true'] at this
    rcases this with h7 | h7
    · obtain ⟨L', h8⟩ := lpN_mem ((memN_iff _ _).1 h7)
      have := (hlp l L' h8).2.2
      rw [hl] at this; cases this
      exact h8
    · rw [(memN_iff _ _).2 hp] at h7; cases h7
def notGoto : Exit → Bool
  | .goto _ => false
  | _ => true
theorem xsOf_q {xq : Exit → Bool} {c : Code} {ol : List OPl} {j : Nat} {e : Exit} {vs : List LSt} (h : (xsOf xq c ol)[j]? = some (e, vs)) : xq e = true := by
  have := List.mem_of_getElem? h
  unfold xsOf at this
  rw [List.mem_flatMap] at this
  obtain ⟨e', h1, h2⟩ := this
  rw [List.mem_map] at h2
  obtain ⟨v, h3, h4⟩ := h2
  cases h4
  exact (List.mem_filter.1 h1).2
theorem rounds_mono {F : Fence} {c : Code} {Q Q' : Exit → Act → World → Prop} (h : ∀ e a w, Q e a w → Q' e a w) : ∀ (m : Nat) (a : Act) (w : World), Code.roundsIn F 0 P c Q m a w → Code.roundsIn F 0 P c Q' m a w
  | 0, a, w, hq => hq
  | m + 1, a, w, hq => by
    rw [roundsIn_succ] at hq ⊢
    refine wpIn_mono hq ?_
    intro e a2 w2 hq
    cases e <;> first | exact rounds_mono h m _ _ hq | exact h _ _ _ hq
end Go.Fz.Sy
/- The symbolic engine, part ZE: loops over data are sound. -/
noncomputable section
namespace Go.Fz.Sy
set_option linter.unusedVariables false
set_option linter.unusedSimpArgs false
set_option linter.unusedSectionVars false
variable {P : Program} {φ : Ren} {K : Nat → Prop} {w : World} {R : Type}
theorem hf_vn {F : Frm} {ν : Nat → Bool} {M : Nat} (hvE : VN ν F.lo F.H1) (hM : F.n0 ≤ M) {vs : List LSt} {x : DS F.dl} {y : OS F.ol} (h : VN ν F.n0 (F.hp F.HR vs x y)) : VN ν M (F.hp F.HF vs x y) := by
  refine ⟨fun b n hr => h.empty b n (by rw [← hf_reg]; exact hr), fun b hb => h.old b (Nat.le_trans hM hb), fun b hb => ?_⟩
  unfold Frm.hp at hb
  rw [sget_append] at hb
  have fin : ∀ k, sget (F.hp F.HR vs x y) b = some k → notNil (some k) = true → ν b = false := fun k hk hn => h.nn b (by rw [hk]; exact hn)
  unfold Frm.hp at fin
  rw [sget_append] at fin
  cases h1 : sget (hpD F.dl x) b with
  | some k => rw [h1] at hb fin; exact fin k rfl hb
  | none =>
    rw [h1] at hb fin
    simp only at hb fin
    rw [sget_append] at hb fin
    cases h2 : sget (hpO F.ol vs y) b with
    | some k => rw [h2] at hb fin; exact fin k rfl hb
    | none =>
      rw [h2] at hb
      simp only at hb
      unfold Frm.HF at hb
      rw [selS_get] at hb
      split at hb
      · cases hb
      · refine hvE.nn b ?_
        cases hk : sget F.H1 b with
        | none => rw [hk] at hb; cases hb
        | some k =>
          rw [hk] at hb
          simp only [Option.map_some] at hb
          cases k with
          | arr nn t l =>
            simp only [backB] at hb
            cases hm : memN F.mv b with
            | true => rw [hm] at hb; cases hb
            | false => rw [hm] at hb; exact hb
          | _ => exact hb
theorem loopF_ok {cont : Exit → Bool} (hcont : ∀ e, cont e = true ↔ e = .normal) {E : (R : Type) → EvS R} (hE : ∀ R, (E R).Ok P) {F : Frm} {c : Code} (hF : F.OkC c) (hkeep : ∀ l L, sget F.H1 l = some (.loop L) → l ∈ F.pn → OPl.lp l L ∈ F.ol) (hall : ∀ b x, reg (sget F.H1 b) = some x → b ∈ F.ns)
    {rd : Option Nat} {tm : List SV} {ds : List Nat} {H : SH} {M : Nat} {xs : Xs} {k : KC R} {r : R} {x0 : DS F.dl} {y0 : OS F.ol} {σ : List (Nat × Nat)} (hM : F.n0 ≤ M) (htm : F.tm0 = maskT (asg c) 0 tm)
    (hD : bkD F.dl tm H = some (x0, F.H1)) (hO : bkO F.ol (rdy F.ol) tm F.H1 = some (y0, σ)) (hQ : srcQ (idD F.dl ++ σ) = true) (hN : nameQ F.lo F.n0 (idD F.dl ++ σ) = true) (hR : srcR F (idD F.dl ++ σ) = true)
    (h : loopF cont E F rd c ds M xs (x0, y0) k = some r) : ∃ S, SLoop P rd c tm ds H F.lo S ∧ k S = some r := by
  unfold loopF at h
  split at h
  case h_2 => cases h
  rename_i j s hit
  rw [splitO_eq] at h
  have hg := bkD_ghost hD
  have hvE : ∀ ν, VN ν F.lo H → VN ν F.lo F.H1 := fun ν hv => hg.1.vn hv
  have hst0 : ∀ ν, VN ν F.lo F.H1 → F.St1 ν (rdy F.ol) (x0, y0) := fun ν hv => by
    obtain ⟨q1, q2, q3, q4⟩ := refold_st hF.toOk hv hv hD hO hN (fun b _ => rfl)
    exact ⟨q4, q3⟩
  have hst : ∀ ν, VN ν F.lo F.H1 → ∃ e vs, xs[j]? = some (e, vs) ∧ F.St1 ν vs s := fun ν hv => by
    refine iter_inv (B := roundK cont E F rd c ds M xs) (I := fun s => F.St1 ν (rdy F.ol) s) (J := fun x => ∃ e vs, xs[x.1]? = some (e, vs) ∧ F.St1 ν vs x.2) ?_ bigN (x0, y0) (j, s) hit (hst0 ν hv)
    intro s0 r0 hr0 hI
    obtain ⟨S, s1, s2, s3, vs, s', s4, s5⟩ := round_st hE hF hv hr0
    have := round_st1 hE hF hv s1 hI s4
    rcases s5 with ⟨_, rfl, rfl⟩ | ⟨_, j', rfl, hj⟩
    · exact this
    · exact ⟨_, vs, hj, this⟩
  have hv0 : VN (fun _ => false) F.lo F.H1 := ⟨fun b n hr => reg_zero hr, (fun _ _ => rfl), (fun _ _ => rfl)⟩
  obtain ⟨e, vs, hj, hstf⟩ := hst _ hv0
  have hp := pickX_at (f := fun v => k ⟨v.1, F.tm s.1 s.2, ds, F.hp F.HF v.2 s.1 s.2, M⟩) (i := 0) hj
  rw [Nat.zero_add] at hp
  rw [hp] at h
  refine ⟨⟨e, F.tm s.1 s.2, ds, F.hp F.HF vs s.1 s.2, M⟩, ⟨fun b z hz => ?_, fun l L hl => ?_, ⟨?_, fun i hi => ?_⟩, Nat.le_trans hF.le hM, fun ν hv => ⟨hf_vn (hvE ν hv) hM ?_, (show F.lo ≤ M from Nat.le_trans hF.le hM), bigN, fun φ w K a rc g hf ht hd hr => ?_⟩⟩, h⟩
  · have h1 : reg (sget F.H1 b) = some z := by rw [hg.1.reg b]; exact hz
    show reg (sget (F.hp F.HF vs s.1 s.2) b) = some z
    rw [hf_reg, hstf.2 b (hall b z h1)]; exact h1
  · obtain ⟨s0, p0, h0⟩ := hg.1.lkeep l L hl
    by_cases hpn : l ∈ F.pn
    · have := hkeep l _ h0 hpn
      obtain ⟨s1, p1, h1⟩ := Frm.lp_at hF (HX := F.HF) (vs := vs) (x := s.1) (y := s.2) this
      exact ⟨s1, p1, h1⟩
    · have h1 : l ∉ nmD F.dl := fun h => hpn (by simp [Frm.pn, h])
      have h2 : l ∉ nmO F.ol := fun h => hpn (by simp [Frm.pn, h])
      refine ⟨s0, p0, ?_⟩
      show sget (F.hp F.HF vs s.1 s.2) l = _
      unfold Frm.hp
      rw [sget_append, hpD_none h1]
      simp only
      rw [sget_append, hpO_none h2]
      simp only
      unfold Frm.HF
      rw [selS_get, if_neg hpn, h0]
      rfl
  · show (F.tm s.1 s.2).length = tm.length
    rw [Frm.tm_len, htm, maskT_len]
  · show (F.tm s.1 s.2)[i]? = tm[i]?
    rw [Frm.tm_get hF hi, htm, maskT_get]
    simp [hi]
  · obtain ⟨e', vs', hj', hst'⟩ := hst ν (hvE ν hv)
    rw [hj] at hj'; cases hj'
    exact hst'.1
  · -- the run
    have hvE' := hvE ν hv
    obtain ⟨φ1, m1, g1⟩ := hg.2 ν φ K w g
    have hout : ∀ b, b < FZ → φ1 b = φ b := fun b hb => (m1 (b + 1)).2.1 b hb (.inl (by omega))
    have hfr : Fresh φ1 F.lo M := ⟨hf.1, fun b h1 h2 => by rw [hout b (by have := hf.1; exact Nat.lt_of_lt_of_le h2 this)]; exact hf.2 b h1 h2⟩
    have hle := (m1 0).1
    have hsrc : ∀ b, b ∈ (idD F.dl ++ σ).map (·.2) → (denHr ν (rho ν F.H1) F.HR).get b = none := fun b hb => by
      rw [List.mem_map] at hb
      obtain ⟨p, hp, rfl⟩ := hb
      unfold srcR at hR
      rw [List.all_eq_true] at hR
      have := hR p hp
      rw [denHr_get]
      cases hk : sget F.HR p.2 with
      | none => rfl
      | some kk =>
        rw [hk] at this
        cases kk <;> first | rfl | cases this
    have hlps : ∀ l L, OPl.lp l L ∈ F.ol → ∀ L', sget F.H1 l = some (.loop L') → ∃ s p, L' = { L with st := s, pend := p } := fun l L hl L' hL' => by
      rw [(hF.lps l L hl).2.2] at hL'; cases hL'
      exact ⟨L.st, L.pend, rfl⟩
    obtain ⟨φ3, hseen⟩ := refold (F := F) (K := K) (KA := K) (φ1 := φ1) (φ2 := φ1) (wE := w) (ν := ν) (M := M) (vs := rdy F.ol) (x := x0) (y := y0) (ts := a.tmps) (HS0 := H) (HS := F.H1) (Hs := onlyH ((idD F.dl ++ σ).map (·.2)) (denH ν F.H1)) hF.toOk g1 hfr hM hvE'
      (Ext.refl _ _ _ _) (Went.refl _ _) g1 (good_only g1 hsrc) hvE' hD hO hQ hN
      (fun p hp => by rw [onlyH_get, if_pos (List.mem_map.2 ⟨p, hp, rfl⟩)]) (fun b _ => rfl) (by rw [hg.1.rho ν]; exact ht.mono hle) (by rw [htm, maskT_len])
      (fun i u hu hj' => by
        rw [htm, maskT_get, Option.map_eq_some_iff] at hu
        obtain ⟨v, hv', rfl⟩ := hu
        by_cases hi : 0 + i ∈ asg c
        · rw [if_pos hi] at hj'; exact absurd rfl hj'
        · rw [if_neg hi]; exact hv') hlps
    have hd1 : DRel φ1 ds a.defers := hd.mono hle
    have hr1 : RRel φ1 rd rc := hr.mono hle
    have key := rounds_iter (P := P) (B := roundK cont E F rd c ds M xs) (c := c) (F := fw rc)
      (Inv := fun s a w' => ∃ φ', F.Seen K φ1 w ν F.HR (rdy F.ol) s.1 s.2 φ' w' a.tmps ∧ DRel φ1 ds a.defers)
      (Fin := fun x e a w' => ∃ vs φ', xs[x.1]? = some (e, vs) ∧ F.Seen K φ1 w ν F.HR vs x.2.1 x.2.2 φ' w' a.tmps ∧ DRel φ1 ds a.defers)
      (fun s0 r0 hr0 a0 w0 hI => by
        obtain ⟨φ', hI, hd0⟩ := hI
        obtain ⟨S, s1, s2, s3, vs', s', s4, s5⟩ := round_st hE hF hvE' hr0
        refine wpIn_mono (round_run hE hF g1 hfr hM hvE' hr1 s1 s2 s3 s4 hI hd0) ?_
        rintro e' a' w' ⟨rfl, φ'', q1, q2⟩
        rcases s5 with ⟨he, rfl, rfl⟩ | ⟨he, j', rfl, hj'⟩
        · exact ⟨(hcont _).1 he, φ'', q1, q2⟩
        · exact ⟨(fun e => by rw [(hcont _).2 e] at he; cases he), vs', φ'', hj', q1, q2⟩) bigN (x0, y0) (j, s) hit a w ⟨φ3, hseen, hd1⟩
    refine rounds_mono ?_ _ _ _ key
    rintro e' a' w' ⟨vs', φ', q1, q2, q3⟩
    rw [hj] at q1; cases q1
    obtain ⟨t1, t2⟩ := seen_out hF g1 hvE' hall q2 (fun b kk hb hk => pn_rw hb hk)
    refine ⟨rfl, φ', ?_, t1, t2, q3.mono q2.ext.1, ⟨q2.went.os, q2.went.tape, q2.went.output, q2.went.size, fun b hb => q2.went.kept b (.inl hb)⟩⟩
    have e1 : Ext K φ φ1 F.lo M := (m1 F.lo).wide (Nat.le_refl _) (Nat.le_trans hF.le hM)
    have e2 : Ext K φ1 φ' F.lo M := (q2.ext.weak (fun b hb => .inl hb)).wide (Nat.le_refl _) hM
    exact e1.comp e2
theorem scope_iter {X S : Type} {B : S → Option (X ⊕ S)} {C x : Code} {lb : Nat} (hfl : findLabel C lb = some x) {Inv : S → Act → World → Prop} {Fin : X → Exit → Act → World → Prop}
    (h : ∀ s r, B s = some r → ∀ a w, Inv s a w → x.wp P (fun e a' w' => match r with | .inl y => notGoto e = true ∧ Fin y e a' w' | .inr s' => e = .goto lb ∧ Inv s' a' w') a w) :
    ∀ (N : Nat) (s : S) (y : X), iterK B N s = some y → ∀ a w, Inv s a w → scopeIn P C (Fin y) N x a w
  | 0, s, x, hi, a, w, hI => by cases hi
  | N + 1, s, y, hi, a, w, hI => by
    rw [iterK_succ] at hi
    split at hi
    · rename_i y' hB
      cases hi
      refine Code.wp_mono ?_ (h s _ hB a w hI)
      intro e a' w' hq
      obtain ⟨he, hf⟩ := hq
      cases e <;> first | exact hf | cases he
    · rename_i s' hB
      refine Code.wp_mono ?_ (h s _ hB a w hI)
      intro e a' w' hq
      obtain ⟨rfl, hI'⟩ := hq
      simp only [hfl]
      exact scope_iter hfl h N s' y hi a' w' hI'
    · cases hi
theorem loopF_scp {cont : Exit → Bool} {C : Code} {lb : Nat} (hcont : ∀ e, cont e = true → e = .goto lb) {E : (R : Type) → EvS R} (hE : ∀ R, (E R).Ok P) {F : Frm} {c : Code} (hF : F.OkC c) (hkeep : ∀ l L, sget F.H1 l = some (.loop L) → l ∈ F.pn → OPl.lp l L ∈ F.ol) (hall : ∀ b x, reg (sget F.H1 b) = some x → b ∈ F.ns)
    {tm : List SV} {ds : List Nat} {H : SH} {M : Nat} {xs : Xs} {k : KC R} {r : R} {x0 : DS F.dl} {y0 : OS F.ol} {σ : List (Nat × Nat)} (hM : F.n0 ≤ M) (hfl : findLabel C lb = some c) (hasgC : ∀ i ∈ asg c, i ∈ asg C) (hxs : ∀ (j : Nat) e vs, xs[j]? = some (e, vs) → notGoto e = true) (htm : F.tm0 = maskT (asg c) 0 tm)
    (hD : bkD F.dl tm H = some (x0, F.H1)) (hO : bkO F.ol (rdy F.ol) tm F.H1 = some (y0, σ)) (hQ : srcQ (idD F.dl ++ σ) = true) (hN : nameQ F.lo F.n0 (idD F.dl ++ σ) = true) (hR : srcR F (idD F.dl ++ σ) = true)
    (h : loopF cont E F none c ds M xs (x0, y0) k = some r) : ∃ S, SScp P C c tm ds H F.lo S ∧ k S = some r := by
  unfold loopF at h
  split at h
  case h_2 => cases h
  rename_i j s hit
  rw [splitO_eq] at h
  have hg := bkD_ghost hD
  have hvE : ∀ ν, VN ν F.lo H → VN ν F.lo F.H1 := fun ν hv => hg.1.vn hv
  have hst0 : ∀ ν, VN ν F.lo F.H1 → F.St1 ν (rdy F.ol) (x0, y0) := fun ν hv => by
    obtain ⟨q1, q2, q3, q4⟩ := refold_st hF.toOk hv hv hD hO hN (fun b _ => rfl)
    exact ⟨q4, q3⟩
  have hst : ∀ ν, VN ν F.lo F.H1 → ∃ e vs, xs[j]? = some (e, vs) ∧ F.St1 ν vs s := fun ν hv => by
    refine iter_inv (B := roundK cont E F none c ds M xs) (I := fun s => F.St1 ν (rdy F.ol) s) (J := fun x => ∃ e vs, xs[x.1]? = some (e, vs) ∧ F.St1 ν vs x.2) ?_ bigN (x0, y0) (j, s) hit (hst0 ν hv)
    intro s0 r0 hr0 hI
    obtain ⟨S, s1, s2, s3, vs, s', s4, s5⟩ := round_st hE hF hv hr0
    have := round_st1 hE hF hv s1 hI s4
    rcases s5 with ⟨_, rfl, rfl⟩ | ⟨_, j', rfl, hj⟩
    · exact this
    · exact ⟨_, vs, hj, this⟩
  have hv0 : VN (fun _ => false) F.lo F.H1 := ⟨fun b n hr => reg_zero hr, (fun _ _ => rfl), (fun _ _ => rfl)⟩
  obtain ⟨e, vs, hj, hstf⟩ := hst _ hv0
  have hp := pickX_at (f := fun v => k ⟨v.1, F.tm s.1 s.2, ds, F.hp F.HF v.2 s.1 s.2, M⟩) (i := 0) hj
  rw [Nat.zero_add] at hp
  rw [hp] at h
  refine ⟨⟨e, F.tm s.1 s.2, ds, F.hp F.HF vs s.1 s.2, M⟩, ⟨fun b z hz => ?_, fun l L hl => ?_, ⟨?_, fun i hi => ?_⟩, Nat.le_trans hF.le hM, fun ν hv => ⟨hf_vn (hvE ν hv) hM ?_, (show F.lo ≤ M from Nat.le_trans hF.le hM), bigN, fun φ w K a g hf ht hd => ?_⟩⟩, h⟩
  · have h1 : reg (sget F.H1 b) = some z := by rw [hg.1.reg b]; exact hz
    show reg (sget (F.hp F.HF vs s.1 s.2) b) = some z
    rw [hf_reg, hstf.2 b (hall b z h1)]; exact h1
  · obtain ⟨s0, p0, h0⟩ := hg.1.lkeep l L hl
    by_cases hpn : l ∈ F.pn
    · have := hkeep l _ h0 hpn
      obtain ⟨s1, p1, h1⟩ := Frm.lp_at hF (HX := F.HF) (vs := vs) (x := s.1) (y := s.2) this
      exact ⟨s1, p1, h1⟩
    · have h1 : l ∉ nmD F.dl := fun h => hpn (by simp [Frm.pn, h])
      have h2 : l ∉ nmO F.ol := fun h => hpn (by simp [Frm.pn, h])
      refine ⟨s0, p0, ?_⟩
      show sget (F.hp F.HF vs s.1 s.2) l = _
      unfold Frm.hp
      rw [sget_append, hpD_none h1]
      simp only
      rw [sget_append, hpO_none h2]
      simp only
      unfold Frm.HF
      rw [selS_get, if_neg hpn, h0]
      rfl
  · show (F.tm s.1 s.2).length = tm.length
    rw [Frm.tm_len, htm, maskT_len]
  · show (F.tm s.1 s.2)[i]? = tm[i]?
    have hi : i ∉ asg c := fun h => hi (hasgC i h)
    rw [Frm.tm_get hF hi, htm, maskT_get]
    simp [hi]
  · obtain ⟨e', vs', hj', hst'⟩ := hst ν (hvE ν hv)
    rw [hj] at hj'; cases hj'
    exact hst'.1
  · -- the run
    have hvE' := hvE ν hv
    obtain ⟨φ1, m1, g1⟩ := hg.2 ν φ K w g
    have hout : ∀ b, b < FZ → φ1 b = φ b := fun b hb => (m1 (b + 1)).2.1 b hb (.inl (by omega))
    have hfr : Fresh φ1 F.lo M := ⟨hf.1, fun b h1 h2 => by rw [hout b (by have := hf.1; exact Nat.lt_of_lt_of_le h2 this)]; exact hf.2 b h1 h2⟩
    have hle := (m1 0).1
    have hsrc : ∀ b, b ∈ (idD F.dl ++ σ).map (·.2) → (denHr ν (rho ν F.H1) F.HR).get b = none := fun b hb => by
      rw [List.mem_map] at hb
      obtain ⟨p, hp, rfl⟩ := hb
      unfold srcR at hR
      rw [List.all_eq_true] at hR
      have := hR p hp
      rw [denHr_get]
      cases hk : sget F.HR p.2 with
      | none => rfl
      | some kk =>
        rw [hk] at this
        cases kk <;> first | rfl | cases this
    have hlps : ∀ l L, OPl.lp l L ∈ F.ol → ∀ L', sget F.H1 l = some (.loop L') → ∃ s p, L' = { L with st := s, pend := p } := fun l L hl L' hL' => by
      rw [(hF.lps l L hl).2.2] at hL'; cases hL'
      exact ⟨L.st, L.pend, rfl⟩
    obtain ⟨φ3, hseen⟩ := refold (F := F) (K := K) (KA := K) (φ1 := φ1) (φ2 := φ1) (wE := w) (ν := ν) (M := M) (vs := rdy F.ol) (x := x0) (y := y0) (ts := a.tmps) (HS0 := H) (HS := F.H1) (Hs := onlyH ((idD F.dl ++ σ).map (·.2)) (denH ν F.H1)) hF.toOk g1 hfr hM hvE'
      (Ext.refl _ _ _ _) (Went.refl _ _) g1 (good_only g1 hsrc) hvE' hD hO hQ hN
      (fun p hp => by rw [onlyH_get, if_pos (List.mem_map.2 ⟨p, hp, rfl⟩)]) (fun b _ => rfl) (by rw [hg.1.rho ν]; exact ht.mono hle) (by rw [htm, maskT_len])
      (fun i u hu hj' => by
        rw [htm, maskT_get, Option.map_eq_some_iff] at hu
        obtain ⟨v, hv', rfl⟩ := hu
        by_cases hi : 0 + i ∈ asg c
        · rw [if_pos hi] at hj'; exact absurd rfl hj'
        · rw [if_neg hi]; exact hv') hlps
    have hd1 : DRel φ1 ds a.defers := hd.mono hle
    have hr1 : RRel φ1 none none := trivial
    have key := scope_iter (P := P) (B := roundK cont E F none c ds M xs) hfl
      (Inv := fun s a w' => ∃ φ', F.Seen K φ1 w ν F.HR (rdy F.ol) s.1 s.2 φ' w' a.tmps ∧ DRel φ1 ds a.defers)
      (Fin := fun x e a w' => ∃ vs φ', xs[x.1]? = some (e, vs) ∧ F.Seen K φ1 w ν F.HR vs x.2.1 x.2.2 φ' w' a.tmps ∧ DRel φ1 ds a.defers)
      (fun s0 r0 hr0 a0 w0 hI => by
        obtain ⟨φ', hI, hd0⟩ := hI
        obtain ⟨S, s1, s2, s3, vs', s', s4, s5⟩ := round_st hE hF hvE' hr0
        refine (wpIn_wide (n := 0)).1 (wpIn_mono (round_run (rc := none) hE hF g1 hfr hM hvE' hr1 s1 s2 s3 s4 hI hd0) ?_)
        rintro e' a' w' ⟨rfl, φ'', q1, q2⟩
        rcases s5 with ⟨he, rfl, rfl⟩ | ⟨he, j', rfl, hj'⟩
        · exact ⟨hcont _ he, φ'', q1, q2⟩
        · exact ⟨hxs _ _ _ hj', vs', φ'', hj', q1, q2⟩) bigN (x0, y0) (j, s) hit a w ⟨φ3, hseen, hd1⟩
    refine scopeIn_mono ?_ _ _ _ _ key
    rintro e' a' w' ⟨vs', φ', q1, q2, q3⟩
    rw [hj] at q1; cases q1
    obtain ⟨t1, t2⟩ := seen_out hF g1 hvE' hall q2 (fun b kk hb hk => pn_rw hb hk)
    refine ⟨rfl, φ', ?_, t1, t2, q3.mono q2.ext.1, ⟨q2.went.os, q2.went.tape, q2.went.output, q2.went.size, fun b hb => q2.went.kept b (.inl hb)⟩⟩
    have e1 : Ext K φ φ1 F.lo M := (m1 F.lo).wide (Nat.le_refl _) (Nat.le_trans hF.le hM)
    have e2 : Ext K φ1 φ' F.lo M := (q2.ext.weak (fun b hb => .inl hb)).wide (Nat.le_refl _) hM
    exact e1.comp e2
theorem loopK_ok {cont : Exit → Bool} (hcont : ∀ e, cont e = true ↔ e = .normal) {xq : Exit → Bool} {E : (R : Type) → EvS R} (hE : ∀ R, (E R).Ok P) {pl : Plan} {rd : Option Nat} {c : Code} {tm : List SV} {ds : List Nat} {H : SH} {nx sp : Nat} {k : KC R} {r : R} (h : loopK cont xq E pl rd c tm ds H nx sp k = some r) : ∃ S, SLoop P rd c tm ds H nx S ∧ k S = some r := by
  unfold loopK at h
  split at h
  case h_2 => cases h
  rename_i dl ol0 g hpl
  split at h
  case h_2 => cases h
  rename_i x0 H1 hD
  unfold loopG at h
  dsimp only at h
  split at h
  case h_2 => cases h
  rename_i y0 σ hO
  have h6 := cond_some h
  clear h
  obtain ⟨hc, h⟩ := h6
  simp only [Bool.and_eq_true] at hc
  obtain ⟨c1, c2, c3, c4, c5⟩ := hc
  have hlps : ∀ l L, OPl.lp l L ∈ (ol0 ++ lpsOf (nsOf H1 (namesS H1)) nx H1 (namesS H1)) → lowL (nsOf H1 (namesS H1)) nx L.tm = true ∧ L.dfr < nx ∧ sget H1 l = some (.loop L) := fun l L hl => by
    rcases List.mem_append.1 hl with hl | hl
    · exact absurd hl (noLp_ok c1)
    · exact lpsOf_ok hl
  obtain ⟨hF, hkeep⟩ := frmQ_ok (F := frmOf dl (ol0 ++ lpsOf (nsOf H1 (namesS H1)) nx H1 (namesS H1)) g c tm nx H1 (nsOf H1 (namesS H1)) σ) c2 (Nat.le_add_right _ _) hlps (fun b hb => nsOf_mem hb) (tm := tm) rfl
  exact loopF_ok hcont (F := frmOf dl (ol0 ++ lpsOf (nsOf H1 (namesS H1)) nx H1 (namesS H1)) g c tm nx H1 (nsOf H1 (namesS H1)) σ) hE hF hkeep
    (fun b x hx => by
      have : ∃ k, sget H1 b = some k := by
        cases hk : sget H1 b with
        | none => exact absurd hx (by show reg (sget H1 b) ≠ _; rw [hk]; simp [reg])
        | some k => exact ⟨k, rfl⟩
      obtain ⟨k, hk⟩ := this
      exact nsOf_all hx (namesS_mem hk)) (Nat.le_add_right _ _) rfl hD hO c3 c4 c5 h
theorem loopK_scp {cont : Exit → Bool} {C : Code} {lb : Nat} (hcont : ∀ e, cont e = true → e = .goto lb) {E : (R : Type) → EvS R} (hE : ∀ R, (E R).Ok P) {pl : Plan} {c : Code} {tm : List SV} {ds : List Nat} {H : SH} {nx sp : Nat} {k : KC R} {r : R} (hfl : findLabel C lb = some c) (hasgC : ∀ i ∈ asg c, i ∈ asg C) (h : loopK cont notGoto E pl none c tm ds H nx sp k = some r) : ∃ S, SScp P C c tm ds H nx S ∧ k S = some r := by
  unfold loopK at h
  split at h
  case h_2 => cases h
  rename_i dl ol0 g hpl
  split at h
  case h_2 => cases h
  rename_i x0 H1 hD
  unfold loopG at h
  dsimp only at h
  split at h
  case h_2 => cases h
  rename_i y0 σ hO
  have h6 := cond_some h
  clear h
  obtain ⟨hc, h⟩ := h6
  simp only [Bool.and_eq_true] at hc
  obtain ⟨c1, c2, c3, c4, c5⟩ := hc
  have hlps : ∀ l L, OPl.lp l L ∈ (ol0 ++ lpsOf (nsOf H1 (namesS H1)) nx H1 (namesS H1)) → lowL (nsOf H1 (namesS H1)) nx L.tm = true ∧ L.dfr < nx ∧ sget H1 l = some (.loop L) := fun l L hl => by
    rcases List.mem_append.1 hl with hl | hl
    · exact absurd hl (noLp_ok c1)
    · exact lpsOf_ok hl
  obtain ⟨hF, hkeep⟩ := frmQ_ok (F := frmOf dl (ol0 ++ lpsOf (nsOf H1 (namesS H1)) nx H1 (namesS H1)) g c tm nx H1 (nsOf H1 (namesS H1)) σ) c2 (Nat.le_add_right _ _) hlps (fun b hb => nsOf_mem hb) (tm := tm) rfl
  exact loopF_scp hcont (F := frmOf dl (ol0 ++ lpsOf (nsOf H1 (namesS H1)) nx H1 (namesS H1)) g c tm nx H1 (nsOf H1 (namesS H1)) σ) hE hF hkeep
    (fun b x hx => by
      have : ∃ k, sget H1 b = some k := by
        cases hk : sget H1 b with
        | none => exact absurd hx (by show reg (sget H1 b) ≠ _; rw [hk]; simp [reg])
        | some k => exact ⟨k, rfl⟩
      obtain ⟨k, hk⟩ := this
      exact nsOf_all hx (namesS_mem hk)) (Nat.le_add_right _ _) hfl hasgC (fun j e vs hj => xsOf_q hj) rfl hD hO c3 c4 c5 h
end Go.Fz.Sy
/- The symbolic engine, part ZF: code whose ways come together again: what it makes of its places is data, and what follows is told once. -/
noncomputable section
namespace Go.Fz.Sy
set_option linter.unusedVariables false
set_option linter.unusedSimpArgs false
set_option linter.unusedSectionVars false
variable {P : Program} {φ : Ren} {K : Nat → Prop} {w : World} {R : Type}
def outJ (F : Frm) (S : SRes) : Xs → Nat → Option (Nat × F.S)
  | [], _ => none
  | (e, vs) :: r, j => bif exitQ S.e e then match bkAll F vs S.tm S.H with
      | some s => some (j, s)
      | none => outJ F S r (j + 1)
    else outJ F S r (j + 1)
theorem outJ_some {F : Frm} {S : SRes} : ∀ {xs : Xs} {j : Nat} {r : Nat × F.S}, outJ F S xs j = some r → ∃ i vs, r.1 = j + i ∧ xs[i]? = some (S.e, vs) ∧ bkAll F vs S.tm S.H = some r.2
  | [], j, r, h => by cases h
  | (e, vs) :: xs, j, r, h => by
    have rec_ : outJ F S xs (j + 1) = some r → ∃ i vs', r.1 = j + i ∧ ((e, vs) :: xs)[i]? = some (S.e, vs') ∧ bkAll F vs' S.tm S.H = some r.2 := fun h => by
      obtain ⟨i, vs', h1, h2, h3⟩ := outJ_some h
      exact ⟨i + 1, vs', by rw [h1]; omega, by simpa using h2, h3⟩
    simp only [outJ] at h
    rcases bif_split h with ⟨h1, h2⟩ | ⟨_, h2⟩
    · split at h2
      · rename_i s hs
        cases h2
        exact ⟨0, vs, rfl, by rw [exitQ_eq h1]; rfl, hs⟩
      · exact rec_ h2
    · exact rec_ h2
def roundJ (E : (R : Type) → EvS R) (F : Frm) (rd : Option Nat) (c : Code) (ds : List Nat) (M : Nat) (xs : Xs) (s : F.S) : Option (Nat × F.S) :=
  splitO F.ol s.2 fun y => (E _).code0 rd c (F.tm s.1 y) ds (F.hp F.HR (rdy F.ol) s.1 y) F.n0 fun S =>
    bif Nat.ble S.nx M && natsQ ds S.ds then outJ F S xs 0 else none
theorem roundJ_st {E : (R : Type) → EvS R} (hE : ∀ R, (E R).Ok P) {F : Frm} {c : Code} {rd : Option Nat} {ds : List Nat} {M : Nat} {xs : Xs} {s : F.S} {j : Nat} {s' : F.S} (h : roundJ E F rd c ds M xs s = some (j, s')) :
    ∃ S : SRes, SCode P rd c (F.tm s.1 s.2) ds (F.hp F.HR (rdy F.ol) s.1 s.2) F.n0 S ∧ S.nx ≤ M ∧ S.ds = ds ∧
      ∃ vs, bkAll F vs S.tm S.H = some s' ∧ xs[j]? = some (S.e, vs) := by
  unfold roundJ at h
  rw [splitO_eq] at h
  obtain ⟨S, h1, h2⟩ := (hE _).code0 h
  have h6 := cond_some h2
  clear h2
  obtain ⟨hq, h2⟩ := h6
  simp only [Bool.and_eq_true, Nat.ble_eq] at hq
  obtain ⟨i, vs, e1, e2, e3⟩ := outJ_some h2
  refine ⟨S, h1, hq.1, (natsQ_eq hq.2).symm, vs, e3, ?_⟩
  have : j = i := by simpa using e1
  rw [this]; exact e2
def joinF (E : (R : Type) → EvS R) (F : Frm) (rd : Option Nat) (c : Code) (ds : List Nat) (M : Nat) (xs : Xs) (s0 : F.S) (k : KC R) : Option R :=
  match roundJ E F rd c ds M xs s0 with
  | some (j, s) => splitO F.ol s.2 fun y => pickX xs 0 j fun v => k ⟨v.1, F.tm s.1 y, ds, F.hp F.HF v.2 s.1 y, M⟩
  | none => none
theorem joinF_ok {E : (R : Type) → EvS R} (hE : ∀ R, (E R).Ok P) {F : Frm} {c : Code} (hF : F.OkC c) (hkeep : ∀ l L, sget F.H1 l = some (.loop L) → l ∈ F.pn → OPl.lp l L ∈ F.ol) (hall : ∀ b x, reg (sget F.H1 b) = some x → b ∈ F.ns)
    {rd : Option Nat} {tm : List SV} {ds : List Nat} {H : SH} {M : Nat} {xs : Xs} {k : KC R} {r : R} {x0 : DS F.dl} {y0 : OS F.ol} {σ : List (Nat × Nat)} (hM : F.n0 ≤ M) (htm : F.tm0 = maskT (asg c) 0 tm)
    (hD : bkD F.dl tm H = some (x0, F.H1)) (hO : bkO F.ol (rdy F.ol) tm F.H1 = some (y0, σ)) (hQ : srcQ (idD F.dl ++ σ) = true) (hN : nameQ F.lo F.n0 (idD F.dl ++ σ) = true) (hR : srcR F (idD F.dl ++ σ) = true)
    (h : joinF E F rd c ds M xs (x0, y0) k = some r) : ∃ S, SCode P rd c tm ds H F.lo S ∧ k S = some r := by
  unfold joinF at h
  split at h
  case h_2 => cases h
  rename_i j s hit
  rw [splitO_eq] at h
  have hg := bkD_ghost hD
  have hvE : ∀ ν, VN ν F.lo H → VN ν F.lo F.H1 := fun ν hv => hg.1.vn hv
  have hst0 : ∀ ν, VN ν F.lo F.H1 → F.St1 ν (rdy F.ol) (x0, y0) := fun ν hv => by
    obtain ⟨q1, q2, q3, q4⟩ := refold_st hF.toOk hv hv hD hO hN (fun b _ => rfl)
    exact ⟨q4, q3⟩
  obtain ⟨S0, p1, p2, p3, vs0, p4, p5⟩ := roundJ_st hE hit
  have hst : ∀ ν, VN ν F.lo F.H1 → F.St1 ν vs0 s := fun ν hv => round_st1 hE hF hv p1 (hst0 ν hv) p4
  have hv0 : VN (fun _ => false) F.lo F.H1 := ⟨fun b n hr => reg_zero hr, (fun _ _ => rfl), (fun _ _ => rfl)⟩
  have hstf := hst _ hv0
  have hp := pickX_at (f := fun v => k ⟨v.1, F.tm s.1 s.2, ds, F.hp F.HF v.2 s.1 s.2, M⟩) (i := 0) p5
  rw [Nat.zero_add] at hp
  rw [hp] at h
  refine ⟨⟨S0.e, F.tm s.1 s.2, ds, F.hp F.HF vs0 s.1 s.2, M⟩, ⟨fun b z hz => ?_, fun l L hl => ?_, ⟨?_, fun i hi => ?_⟩, Nat.le_trans hF.le hM, fun ν hv => ⟨hf_vn (hvE ν hv) hM ?_, (show F.lo ≤ M from Nat.le_trans hF.le hM), fun φ w K a rc g hf ht hd hr => ?_⟩⟩, h⟩
  · have h1 : reg (sget F.H1 b) = some z := by rw [hg.1.reg b]; exact hz
    show reg (sget (F.hp F.HF vs0 s.1 s.2) b) = some z
    rw [hf_reg, hstf.2 b (hall b z h1)]; exact h1
  · obtain ⟨s0, p0, h0⟩ := hg.1.lkeep l L hl
    by_cases hpn : l ∈ F.pn
    · have := hkeep l _ h0 hpn
      obtain ⟨s1, p1, h1⟩ := Frm.lp_at hF (HX := F.HF) (vs := vs0) (x := s.1) (y := s.2) this
      exact ⟨s1, p1, h1⟩
    · have h1 : l ∉ nmD F.dl := fun h => hpn (by simp [Frm.pn, h])
      have h2 : l ∉ nmO F.ol := fun h => hpn (by simp [Frm.pn, h])
      refine ⟨s0, p0, ?_⟩
      show sget (F.hp F.HF vs0 s.1 s.2) l = _
      unfold Frm.hp
      rw [sget_append, hpD_none h1]
      simp only
      rw [sget_append, hpO_none h2]
      simp only
      unfold Frm.HF
      rw [selS_get, if_neg hpn, h0]
      rfl
  · show (F.tm s.1 s.2).length = tm.length
    rw [Frm.tm_len, htm, maskT_len]
  · show (F.tm s.1 s.2)[i]? = tm[i]?
    rw [Frm.tm_get hF hi, htm, maskT_get]
    simp [hi]
  · exact (hst ν (hvE ν hv)).1
  · -- the run
    have hvE' := hvE ν hv
    obtain ⟨φ1, m1, g1⟩ := hg.2 ν φ K w g
    have hout : ∀ b, b < FZ → φ1 b = φ b := fun b hb => (m1 (b + 1)).2.1 b hb (.inl (by omega))
    have hfr : Fresh φ1 F.lo M := ⟨hf.1, fun b h1 h2 => by rw [hout b (by have := hf.1; exact Nat.lt_of_lt_of_le h2 this)]; exact hf.2 b h1 h2⟩
    have hle := (m1 0).1
    have hsrc : ∀ b, b ∈ (idD F.dl ++ σ).map (·.2) → (denHr ν (rho ν F.H1) F.HR).get b = none := fun b hb => by
      rw [List.mem_map] at hb
      obtain ⟨p, hp, rfl⟩ := hb
      unfold srcR at hR
      rw [List.all_eq_true] at hR
      have := hR p hp
      rw [denHr_get]
      cases hk : sget F.HR p.2 with
      | none => rfl
      | some kk =>
        rw [hk] at this
        cases kk <;> first | rfl | cases this
    have hlps : ∀ l L, OPl.lp l L ∈ F.ol → ∀ L', sget F.H1 l = some (.loop L') → ∃ s p, L' = { L with st := s, pend := p } := fun l L hl L' hL' => by
      rw [(hF.lps l L hl).2.2] at hL'; cases hL'
      exact ⟨L.st, L.pend, rfl⟩
    obtain ⟨φ3, hseen⟩ := refold (F := F) (K := K) (KA := K) (φ1 := φ1) (φ2 := φ1) (wE := w) (ν := ν) (M := M) (vs := rdy F.ol) (x := x0) (y := y0) (ts := a.tmps) (HS0 := H) (HS := F.H1) (Hs := onlyH ((idD F.dl ++ σ).map (·.2)) (denH ν F.H1)) hF.toOk g1 hfr hM hvE'
      (Ext.refl _ _ _ _) (Went.refl _ _) g1 (good_only g1 hsrc) hvE' hD hO hQ hN
      (fun p hp => by rw [onlyH_get, if_pos (List.mem_map.2 ⟨p, hp, rfl⟩)]) (fun b _ => rfl) (by rw [hg.1.rho ν]; exact ht.mono hle) (by rw [htm, maskT_len])
      (fun i u hu hj' => by
        rw [htm, maskT_get, Option.map_eq_some_iff] at hu
        obtain ⟨v, hv', rfl⟩ := hu
        by_cases hi : 0 + i ∈ asg c
        · rw [if_pos hi] at hj'; exact absurd rfl hj'
        · rw [if_neg hi]; exact hv') hlps
    have hd1 : DRel φ1 ds a.defers := hd.mono hle
    have hr1 : RRel φ1 rd rc := hr.mono hle
    refine wpIn_mono (round_run hE hF g1 hfr hM hvE' hr1 p1 p2 p3 p4 hseen hd1) ?_
    rintro e' a' w' ⟨rfl, φ', q2, q3⟩
    obtain ⟨t1, t2⟩ := seen_out hF g1 hvE' hall q2 (fun b kk hb hk => pn_rw hb hk)
    refine ⟨rfl, φ', ?_, t1, t2, q3.mono q2.ext.1, ⟨q2.went.os, q2.went.tape, q2.went.output, q2.went.size, fun b hb => q2.went.kept b (.inl hb)⟩⟩
    have e1 : Ext K φ φ1 F.lo M := (m1 F.lo).wide (Nat.le_refl _) (Nat.le_trans hF.le hM)
    have e2 : Ext K φ1 φ' F.lo M := (q2.ext.weak (fun b hb => .inl hb)).wide (Nat.le_refl _) hM
    exact e1.comp e2
/-- How joined code may end. -/
def xsJ (c : Code) (ol : List OPl) : Xs := (addE .normal (exitsC c)).flatMap fun e => (varsO ol).map fun v => (e, v)
def joinG (E : (R : Type) → EvS R) (dl : List DPl) (ol0 : List OPl) (g : Nat) (rd : Option Nat) (c : Code) (tm : List SV) (ds : List Nat) (nx sp : Nat) (x0 : DS dl) (H1 : SH) (k : KC R) : Option R :=
  match nsOf H1 (namesS H1) with
  | ns => match lpsOf ns nx H1 (namesS H1) with
    | lps => match bkO (ol0 ++ lps) (rdy (ol0 ++ lps)) tm H1 with
      | some (y0, σ) => bif noLp ol0 && (frmQ (frmOf dl (ol0 ++ lps) g c tm nx H1 ns σ) c && (srcQ (idD dl ++ σ) && (nameQ nx (nx + g) (idD dl ++ σ) && srcR (frmOf dl (ol0 ++ lps) g c tm nx H1 ns σ) (idD dl ++ σ)))) then
          joinF E (frmOf dl (ol0 ++ lps) g c tm nx H1 ns σ) rd c ds (nx + g + sp) (xsJ c (ol0 ++ lps)) (x0, y0) k
        else none
      | none => none
def joinK (E : (R : Type) → EvS R) (pl : Plan) (rd : Option Nat) (c : Code) (tm : List SV) (ds : List Nat) (H : SH) (nx sp : Nat) (k : KC R) : Option R := match pl c tm H nx with
  | some (dl, ol0, g) => match bkD dl tm H with
    | some (x0, H1) => joinG E dl ol0 g rd c tm ds nx sp x0 H1 k
    | none => none
  | none => none
theorem joinK_ok {E : (R : Type) → EvS R} (hE : ∀ R, (E R).Ok P) {pl : Plan} {rd : Option Nat} {c : Code} {tm : List SV} {ds : List Nat} {H : SH} {nx sp : Nat} {k : KC R} {r : R} (h : joinK E pl rd c tm ds H nx sp k = some r) : ∃ S, SCode P rd c tm ds H nx S ∧ k S = some r := by
  unfold joinK at h
  split at h
  case h_2 => cases h
  rename_i dl ol0 g hpl
  split at h
  case h_2 => cases h
  rename_i x0 H1 hD
  unfold joinG at h
  dsimp only at h
  split at h
  case h_2 => cases h
  rename_i y0 σ hO
  have h6 := cond_some h
  clear h
  obtain ⟨hc, h⟩ := h6
  simp only [Bool.and_eq_true] at hc
  obtain ⟨c1, c2, c3, c4, c5⟩ := hc
  have hlps : ∀ l L, OPl.lp l L ∈ (ol0 ++ lpsOf (nsOf H1 (namesS H1)) nx H1 (namesS H1)) → lowL (nsOf H1 (namesS H1)) nx L.tm = true ∧ L.dfr < nx ∧ sget H1 l = some (.loop L) := fun l L hl => by
    rcases List.mem_append.1 hl with hl | hl
    · exact absurd hl (noLp_ok c1)
    · exact lpsOf_ok hl
  obtain ⟨hF, hkeep⟩ := frmQ_ok (F := frmOf dl (ol0 ++ lpsOf (nsOf H1 (namesS H1)) nx H1 (namesS H1)) g c tm nx H1 (nsOf H1 (namesS H1)) σ) c2 (Nat.le_add_right _ _) hlps (fun b hb => nsOf_mem hb) (tm := tm) rfl
  exact joinF_ok (F := frmOf dl (ol0 ++ lpsOf (nsOf H1 (namesS H1)) nx H1 (namesS H1)) g c tm nx H1 (nsOf H1 (namesS H1)) σ) hE hF hkeep
    (fun b x hx => by
      have : ∃ k, sget H1 b = some k := by
        cases hk : sget H1 b with
        | none => exact absurd hx (by show reg (sget H1 b) ≠ _; rw [hk]; simp [reg])
        | some k => exact ⟨k, rfl⟩
      obtain ⟨k, hk⟩ := this
      exact nsOf_all hx (namesS_mem hk)) (Nat.le_add_right _ _) rfl hD hO c3 c4 c5 h
end Go.Fz.Sy
/- The symbolic engine, part R: code, with fuel. -/
noncomputable section
namespace Go.Fz.Sy
set_option linter.unusedVariables false
set_option linter.unusedSimpArgs false
variable {P : Program} {φ : Ren} {K : Nat → Prop} {w : World} {R : Type}

def inBlockS (i : Nat) (S : SRes) : SRes := match S.e with
  | .exit j => bif Nat.beq j i then { S with e := .normal } else S
  | _ => S
theorem inBlockS_den (ν : Nat → Bool) (i : Nat) (S : SRes) : denR ν (inBlockS i S) = (denR ν S).inBlock i := by
  unfold inBlockS Res.inBlock
  show _ = (match S.e with | .exit j => if j = i then { denR ν S with e := .normal } else denR ν S | _ => denR ν S)
  cases hE : S.e with
  | exit j =>
    simp only
    rw [beq_if]
    by_cases h : j = i
    · simp [h, denR]
    · simp [h]
  | _ => rfl
def codeK (P : Program) (E : EvS R) (rd : Option Nat) : Code → List SV → List Nat → SH → Nat → KC R → Option R
  | .skip, tm, ds, H, nx, k => k ⟨.normal, tm, ds, H, nx⟩
  | .label _, tm, ds, H, nx, k => k ⟨.normal, tm, ds, H, nx⟩
  | .exit i, tm, ds, H, nx, k => k ⟨.exit i, tm, ds, H, nx⟩
  | .goto i, tm, ds, H, nx, k => k ⟨.goto i, tm, ds, H, nx⟩
  | .ret, tm, ds, H, nx, k => k ⟨.ret, tm, ds, H, nx⟩
  | .seq x y, tm, ds, H, nx, k => bif E.jq (.seq x y) tm.length then E.join rd (.seq x y) tm ds H nx k else codeK P E rd x tm ds H nx fun S => match S.e with
    | .normal => codeK P E rd y S.tm S.ds S.H S.nx k
    | _ => k S
  | .cond c x y, tm, ds, H, nx, k => match sopv tm H c with
    | some (.bool b) => bif b then codeK P E rd x tm ds H nx k else codeK P E rd y tm ds H nx k
    | _ => none
  | .block i c, tm, ds, H, nx, k => codeK P E rd c tm ds H nx fun S => k (inBlockS i S)
  | .loop c, tm, ds, H, nx, k => E.loop rd c tm ds H nx k
  | .region _ ops false, tm, ds, H, nx, k => opsK (opX P E) ops ops.toList tm H nx fun tm' H' nx' => k ⟨.normal, tm', ds, H', nx'⟩
  | .region _ ops true, tm, ds, H, nx, k => drawR P (opX P E) ops tm H nx fun tm' H' nx' => k ⟨.normal, tm', ds, H', nx'⟩
  | .rangeFunc g ps assign body, tm, ds, H, nx, k => rangeK E rd g ps assign body tm ds H nx k
  | .scope c, tm, ds, H, nx, k => match rd with
    | some _ => none
    | none => codeK P E none c tm ds H nx fun S => match S.e with
      | .goto l => match findLabel c l with
        | some rest => E.scp c l rest S.tm S.ds S.H S.nx k
        | none => none
      | _ => k S
  | _, _, _, _, _, _ => none
theorem SCode.seq {rd : Option Nat} {x y : Code} {tm : List SV} {ds : List Nat} {H : SH} {nx : Nat} {S1 S : SRes} (h1 : SCode P rd x tm ds H nx S1) (he : S1.e = .normal) (h2 : SCode P rd y S1.tm S1.ds S1.H S1.nx S) : SCode P rd (.seq x y) tm ds H nx S := by
  obtain ⟨a1, a2, a3, a4, a5⟩ := h1
  obtain ⟨b1, b2, b3, b4, b5⟩ := h2
  refine ⟨a1.trans b1, a2.trans b2, a3.trans b3 (fun i hi => by simp [asg, hi]) (fun i hi => by simp [asg, hi]), Nat.le_trans a4 b4, fun ν hv => ?_⟩
  obtain ⟨v1, o1⟩ := a5 ν hv
  obtain ⟨v2, o2⟩ := b5 ν v1
  exact ⟨v2, codeOk_seq o1 he o2⟩
theorem asg_label {c rest : Code} {l : Nat} (h : findLabel c l = some rest) : ∀ i ∈ asg rest, i ∈ asg c := by
  induction c generalizing rest with
  | seq a b iha ihb =>
    simp only [findLabel] at h
    cases hA : findLabel a l with
    | some r =>
      rw [hA] at h
      simp only [Option.some.injEq] at h
      subst h
      intro i hi
      simp only [asg, List.mem_append] at hi ⊢
      rcases hi with hi | hi
      · exact .inl (iha hA i hi)
      · exact .inr hi
    | none =>
      rw [hA] at h
      simp only [] at h
      intro i hi
      simp only [asg, List.mem_append]
      exact .inr (ihb h i hi)
  | label m =>
    simp only [findLabel] at h
    split at h
    · cases h; intro i hi; simp [asg] at hi
    · cases h
  | _ => simp [findLabel] at h
theorem codeK_ok {E : EvS R} (hE : E.Ok P) (hs : NoSpecial P) {rd : Option Nat} : ∀ (c : Code) {tm : List SV} {ds : List Nat} {H : SH} {nx : Nat} {k : KC R} {r : R}, codeK P E rd c tm ds H nx k = some r → ∃ S, SCode P rd c tm ds H nx S ∧ k S = some r := by
  intro c
  induction c generalizing rd with
  | skip => intro tm ds H nx k r h; exact ⟨_, ⟨RegLe.refl H, LKeep.refl H, Same.refl _ _, Nat.le_refl _, fun ν hv => ⟨hv, codeOk_skip⟩⟩, h⟩
  | label l => intro tm ds H nx k r h; exact ⟨_, ⟨RegLe.refl H, LKeep.refl H, Same.refl _ _, Nat.le_refl _, fun ν hv => ⟨hv, codeOk_label⟩⟩, h⟩
  | exit l => intro tm ds H nx k r h; exact ⟨_, ⟨RegLe.refl H, LKeep.refl H, Same.refl _ _, Nat.le_refl _, fun ν hv => ⟨hv, codeOk_exit⟩⟩, h⟩
  | goto l => intro tm ds H nx k r h; exact ⟨_, ⟨RegLe.refl H, LKeep.refl H, Same.refl _ _, Nat.le_refl _, fun ν hv => ⟨hv, codeOk_goto⟩⟩, h⟩
  | ret => intro tm ds H nx k r h; exact ⟨_, ⟨RegLe.refl H, LKeep.refl H, Same.refl _ _, Nat.le_refl _, fun ν hv => ⟨hv, codeOk_ret⟩⟩, h⟩
  | seq x y ihx ihy =>
    intro tm ds H nx k r h
    simp only [codeK] at h
    rcases bif_split h with ⟨_, h⟩ | ⟨_, h⟩
    · exact hE.join h
    obtain ⟨S1, s1, h1⟩ := ihx h
    split at h1
    · rename_i he
      obtain ⟨S, s2, h2⟩ := ihy h1
      exact ⟨S, s1.seq he s2, h2⟩
    · rename_i he
      obtain ⟨a1, a2, a3, a4, a5⟩ := s1
      exact ⟨S1, ⟨a1, a2, a3.mono (fun i hi => by simp [asg, hi]), a4, fun ν hv => ⟨(a5 ν hv).1, codeOk_seq_out (a5 ν hv).2 he⟩⟩, h1⟩
  | cond c x y ihx ihy =>
    intro tm ds H nx k r h
    simp only [codeK] at h
    split at h
    case h_2 => cases h
    rename_i b hc
    have hc' : ∀ ν, opv (denL (rho ν H) tm) c = some (.bool b) := fun ν => by have := sopv_den hc ν; simpa only [den] using this
    rcases bif_split h with ⟨rfl, h⟩ | ⟨rfl, h⟩
    · obtain ⟨S, ⟨a1, a2, a3, a4, a5⟩, h2⟩ := ihx h
      exact ⟨S, ⟨a1, a2, a3.mono (fun i hi => by simp [asg, hi]), a4, fun ν hv => ⟨(a5 ν hv).1, codeOk_cond (hc' ν) (by simpa using (a5 ν hv).2)⟩⟩, h2⟩
    · obtain ⟨S, ⟨a1, a2, a3, a4, a5⟩, h2⟩ := ihy h
      exact ⟨S, ⟨a1, a2, a3.mono (fun i hi => by simp [asg, hi]), a4, fun ν hv => ⟨(a5 ν hv).1, codeOk_cond (hc' ν) (by simpa using (a5 ν hv).2)⟩⟩, h2⟩
  | block i c ih =>
    intro tm ds H nx k r h
    simp only [codeK] at h
    obtain ⟨S, ⟨a1, a2, a3, a4, a5⟩, h2⟩ := ih h
    have e1 : (inBlockS i S).H = S.H ∧ (inBlockS i S).tm = S.tm ∧ (inBlockS i S).nx = S.nx := by
      unfold inBlockS
      split
      · cases Nat.beq _ i <;> exact ⟨rfl, rfl, rfl⟩
      · exact ⟨rfl, rfl, rfl⟩
    refine ⟨inBlockS i S, ⟨by rw [e1.1]; exact a1, by rw [e1.1]; exact a2, by rw [e1.2.1]; exact a3, by rw [e1.2.2]; exact a4, fun ν hv => ⟨by rw [e1.1, e1.2.2]; exact (a5 ν hv).1, ?_⟩⟩, h2⟩
    rw [inBlockS_den]
    exact codeOk_block (a5 ν hv).2
  | loop c ih =>
    intro tm ds H nx k r h
    simp only [codeK] at h
    obtain ⟨S, ⟨b1, b2, b3, b4, b5⟩, h2⟩ := hE.loop h
    exact ⟨S, ⟨b1, b2, b3, b4, fun ν hv => ⟨(b5 ν hv).1, codeOk_loop (b5 ν hv).2⟩⟩, h2⟩
  | region id ops draw =>
    intro tm ds H nx k r h
    cases draw with
    | false =>
      simp only [codeK] at h
      obtain ⟨tm', H', nx', ⟨a1, a2, a3, a4, a5⟩, h2⟩ := opsK_ok (opX_ok hE hs) (j := 0) (ops := ops) (fun i => by simp) h
      refine ⟨⟨.normal, tm', ds, H', nx'⟩, ⟨a1, a2, a3, a4, fun ν hv => ⟨(a5 ν hv).1, codeOk_region ?_⟩⟩, h2⟩
      have := (a5 ν hv).2
      rw [List.range_eq_range']
      simpa using this
    | true =>
      simp only [codeK] at h
      obtain ⟨tm', H', nx', s1, h2⟩ := drawR_ok (id := id) (ds := ds) (opX_ok hE hs) h
      exact ⟨_, s1, h2⟩
  | rangeFunc g ps assign body iha ihb =>
    intro tm ds H nx k r h
    simp only [codeK] at h
    exact rangeK_ok hE hs h
  | scope c ih =>
    intro tm ds H nx k r h
    cases rd with
    | some l => simp [codeK] at h
    | none =>
      simp only [codeK] at h
      obtain ⟨S1, ⟨a1, a2, a3, a4, a5⟩, h1⟩ := ih h
      split at h1
      · rename_i l he
        split at h1
        case h_2 => cases h1
        rename_i rest hf
        obtain ⟨S, ⟨b1, b2, b3, b4, b5⟩, h2⟩ := hE.scp hf (asg_label hf) h1
        refine ⟨S, ⟨a1.trans b1, a2.trans b2, a3.trans b3 (fun i hi => hi) (fun i hi => hi), Nat.le_trans a4 b4, fun ν hv => ?_⟩, h2⟩
        obtain ⟨v1, o1⟩ := a5 ν hv
        obtain ⟨v2, o2⟩ := b5 ν v1
        exact ⟨v2, codeOk_scope (scpOk_jump o1 he hf o2)⟩
      · rename_i he
        exact ⟨S1, ⟨a1, a2, a3, a4, fun ν hv => ⟨(a5 ν hv).1, codeOk_scope (scpOk_out (a5 ν hv).2 he)⟩⟩, h1⟩
  | refuse s => intro tm ds H nx k r h; simp [codeK] at h

/-- Code, its first step plain. -/
def codeZ (P : Program) (E : EvS R) (rd : Option Nat) (c : Code) (tm : List SV) (ds : List Nat) (H : SH) (nx : Nat) (k : KC R) : Option R := match c with
  | .seq x y => codeK P E rd x tm ds H nx fun S => match S.e with
    | .normal => codeK P E rd y S.tm S.ds S.H S.nx k
    | _ => k S
  | c => codeK P E rd c tm ds H nx k
theorem codeZ_ok {E : EvS R} (hE : E.Ok P) (hs : NoSpecial P) {rd : Option Nat} {c : Code} {tm : List SV} {ds : List Nat} {H : SH} {nx : Nat} {k : KC R} {r : R} (h : codeZ P E rd c tm ds H nx k = some r) : ∃ S, SCode P rd c tm ds H nx S ∧ k S = some r := by
  unfold codeZ at h
  split at h
  · rename_i x y
    obtain ⟨S1, s1, h1⟩ := codeK_ok hE hs _ h
    split at h1
    · rename_i he
      obtain ⟨S, s2, h2⟩ := codeK_ok hE hs _ h1
      exact ⟨S, s1.seq he s2, h2⟩
    · rename_i he
      obtain ⟨a1, a2, a3, a4, a5⟩ := s1
      exact ⟨S1, ⟨a1, a2, a3.mono (fun i hi => by simp [asg, hi]), a4, fun ν hv => ⟨(a5 ν hv).1, codeOk_seq_out (a5 ν hv).2 he⟩⟩, h1⟩
  · exact codeK_ok hE hs _ h
/-! ### The evaluator -/
abbrev Tbl := List (FuncId × Con)
def findC : Tbl → FuncId → Option Con := fun t f => List.rec (motive := fun _ => Option Con) none (fun x _ ih => bif Nat.beq x.1 f then some x.2 else ih) t
def TblOk (P : Program) (t : Tbl) : Prop := ∀ x ∈ t, x.2.Ok P x.1
theorem findC_ok {t : Tbl} (h : TblOk P t) {f : FuncId} {c : Con} : findC t f = some c → c.Ok P f := by
  induction t with
  | nil => intro hf; cases hf
  | cons x r ih =>
    intro hf
    have hf : (bif Nat.beq x.1 f then some x.2 else findC r f) = some c := hf
    cases hb : Nat.beq x.1 f with
    | true =>
      rw [hb] at hf
      cases hf
      have := Nat.eq_of_beq_eq_true hb
      subst this
      exact h x (by simp)
    | false =>
      rw [hb] at hf
      exact ih (fun y hy => h y (List.mem_cons_of_mem _ hy)) hf
/-- How many names a loop may take, by what fuel is left. -/
def spanN : Nat → Nat
  | 0 => 4096
  | n + 1 => 16 * spanN n
def evS1 (P : Program) (t : Tbl) (pl : Plan) (jq : Code → Nat → Bool) (sp : Nat) (E : (R : Type) → EvS R) (R : Type) : EvS R where
  call := fun f args H nx k => match findC t f with
    | some c => conK c args H nx k
    | none => callK P (E R) f args H nx k
  code := fun rd c tm ds H nx k => codeK P (E R) rd c tm ds H nx k
  loop := fun rd c tm ds H nx k => match pl c tm H nx with
    | some _ => loopK (exitQ .normal) (fun _ => true) E pl rd c tm ds H nx sp k
    | none => codeK P (E R) rd c tm ds H nx fun S => match S.e with
      | .normal => (E R).loop rd c S.tm S.ds S.H S.nx k
      | _ => k S
  scp := fun c l x tm ds H nx k => match pl x tm H nx with
    | some _ => loopK (fun e => exitQ e (.goto l)) notGoto E pl none x tm ds H nx sp k
    | none => codeK P (E R) none x tm ds H nx fun S => match S.e with
      | .goto l => match findLabel c l with
        | some rest => (E R).scp c l rest S.tm S.ds S.H S.nx k
        | none => none
      | _ => k S
  join := fun rd c tm ds H nx k => joinK E pl rd c tm ds H nx sp k
  code0 := fun rd c tm ds H nx k => codeZ P (E R) rd c tm ds H nx k
  jq := jq
theorem evS1_ok {t : Tbl} (ht : TblOk P t) {pl : Plan} {jq : Code → Nat → Bool} {sp : Nat} {E : (R : Type) → EvS R} (hE : ∀ R, (E R).Ok P) (hs : NoSpecial P) (R : Type) : (evS1 P t pl jq sp E R).Ok P := by
  refine ⟨fun {f args H nx k r} h => ?_, fun h => codeK_ok (hE R) hs _ h, fun {rd c tm ds H nx k r} h => ?_, fun {c l0 x tm ds H nx k r} hl0 hx h => ?_, fun h => joinK_ok hE h, fun h => codeZ_ok (hE R) hs h⟩
  · simp only [evS1] at h
    split at h
    · rename_i c hc; exact conK_ok (findC_ok ht hc) h
    · exact callK_ok (hE R) h
  · simp only [evS1] at h
    split at h
    · exact loopK_ok (fun e => ⟨fun h => (exitQ_eq h).symm, fun h => by subst h; rfl⟩) hE h
    · obtain ⟨S1, ⟨a1, a2, a3, a4, a5⟩, h1⟩ := codeK_ok (hE R) hs _ h
      split at h1
      · rename_i he
        obtain ⟨S, ⟨b1, b2, b3, b4, b5⟩, h2⟩ := (hE R).loop h1
        refine ⟨S, ⟨a1.trans b1, a2.trans b2, a3.trans b3 (fun i hi => hi) (fun i hi => hi), Nat.le_trans a4 b4, fun ν hv => ?_⟩, h2⟩
        obtain ⟨v1, o1⟩ := a5 ν hv
        obtain ⟨v2, o2⟩ := b5 ν v1
        exact ⟨v2, loopOk_more o1 he o2⟩
      · rename_i he
        exact ⟨S1, ⟨a1, a2, a3, a4, fun ν hv => ⟨(a5 ν hv).1, loopOk_out (a5 ν hv).2 he⟩⟩, h1⟩
  · simp only [evS1] at h
    split at h
    · exact loopK_scp (fun e h => exitQ_eq h) hE hl0 hx h
    · obtain ⟨S1, ⟨a1, a2, a3, a4, a5⟩, h1⟩ := codeK_ok (hE R) hs _ h
      split at h1
      · rename_i l he
        split at h1
        case h_2 => cases h1
        rename_i rest hf
        obtain ⟨S, ⟨b1, b2, b3, b4, b5⟩, h2⟩ := (hE R).scp hf (asg_label hf) h1
        refine ⟨S, ⟨a1.trans b1, a2.trans b2, a3.trans b3 hx (fun i hi => hi), Nat.le_trans a4 b4, fun ν hv => ?_⟩, h2⟩
        obtain ⟨v1, o1⟩ := a5 ν hv
        obtain ⟨v2, o2⟩ := b5 ν v1
        exact ⟨v2, scpOk_jump o1 he hf o2⟩
      · rename_i he
        exact ⟨S1, ⟨a1, a2, a3.mono hx, a4, fun ν hv => ⟨(a5 ν hv).1, scpOk_out (a5 ν hv).2 he⟩⟩, h1⟩
def evS (P : Program) (t : Tbl) (pl : Plan) (jq : Code → Nat → Bool) : Nat → (R : Type) → EvS R
  | 0 => fun _ => ⟨fun _ _ _ _ _ => none, fun _ _ _ _ _ _ _ => none, fun _ _ _ _ _ _ _ => none, fun _ _ _ _ _ _ _ _ => none, fun _ _ _ _ _ _ _ => none, fun _ _ _ _ _ _ _ => none, fun _ _ => false⟩
  | n + 1 => fun R => evS1 P t pl jq (spanN n) (evS P t pl jq n) R
theorem evS_ok {t : Tbl} (ht : TblOk P t) {pl : Plan} {jq : Code → Nat → Bool} (hs : NoSpecial P) : ∀ n R, (evS P t pl jq n R).Ok P
  | 0, R => ⟨(fun h => by cases h), (fun h => by cases h), (fun h => by cases h), (fun _ _ h => by cases h), (fun h => by cases h), (fun h => by cases h)⟩
  | n + 1, R => evS1_ok ht (evS_ok ht hs n) hs R
def firstR : Code → Option Nat
  | .region i _ _ => some i
  | .seq a b => match firstR a with
    | some i => some i
    | none => firstR b
  | .cond _ a b => match firstR a with
    | some i => some i
    | none => firstR b
  | .block _ c => firstR c
  | .loop c => firstR c
  | .scope c => firstR c
  | _ => none
def hasF (P : Program) (f : FuncId) : Bool := match funF P f with
  | some fn => fn.body.isSome
  | none => false
def retL (b : List VT) (v : SV) : List SV := match b with
  | [_] => [v]
  | _ => match v with
    | .tup vs => vs
    | _ => [.junk]
/-- What a function makes of data. -/
def sF (P : Program) (t : Tbl) (pl : Plan) (jq : Code → Nat → Bool) (n : Nat) (f : FuncId) (a b : List VT) (x : T (prodTy a)) : Option (T (prodTy b)) :=
  callK P (evS P t pl jq n (T (prodTy b))) f (mkArgs a x) [] 0 fun v H nx => bif Nat.ble nx FZ then match cvArgs b (retL b v) H with
    | some (y, _) => some y
    | none => none
    else none
theorem ret_cv : ∀ {b : List VT} {v : SV} {H H' : SH} {y : T (prodTy b)}, cvArgs b (retL b v) H = some (y, H') →
    ∀ (ν : Nat → Bool) (G : SH) (φ : Ren) v', VRel φ (den (rho ν G) v) v' → ∃ us, LRel φ (denL (rho ν G) (retL b v)) us ∧ ∀ φ0 ws, LRel φ0 ws us → ws.length = b.length → VRel φ0 (retV ws) v'
  | [], v, H, H', y, h => by
    intro ν G φ v' hv
    cases v with
    | tup vs =>
      simp only [den] at hv
      obtain ⟨ys, rfl, hl⟩ := hv.tuple_inv
      refine ⟨ys.toList, by simpa [retL] using hl, fun φ0 ws hw hlen => ?_⟩
      have : ws = [] := List.length_eq_zero_iff.1 hlen
      subst this
      exact .tuple' (by simpa using hw)
    | _ => simp [retL, cvArgs] at h
  | [a], v, H, H', y, h => by
    intro ν G φ v' hv
    refine ⟨[v'], ⟨hv, trivial⟩, fun φ0 ws hw hlen => ?_⟩
    match ws, hw with
    | [x], hw => exact hw.1
  | a :: b :: r, v, H, H', y, h => by
    intro ν G φ v' hv
    cases v with
    | tup vs =>
      simp only [den] at hv
      obtain ⟨ys, rfl, hl⟩ := hv.tuple_inv
      refine ⟨ys.toList, by simpa [retL] using hl, fun φ0 ws hw hlen => ?_⟩
      have : retV ws = .tuple ws.toArray := by
        match ws, hlen with
        | [], hlen => simp at hlen
        | [x], hlen => simp at hlen
        | _ :: _ :: _, _ => rfl
      rw [this]
      exact .tuple' (by simpa using hw)
    | _ =>
      simp only [retL, cvArgs] at h
      split at h <;> cases h
theorem mkArgs_len : ∀ (l : List VT) (x : T (prodTy l)), (mkArgs l x).length = l.length
  | [], _ => rfl
  | a :: r, x => by simp [mkArgs, mkArgs_len r x.2]
theorem cvArgs_len : ∀ {l : List VT} {vs : List SV} {H H' : SH} {x : T (prodTy l)}, cvArgs l vs H = some (x, H') → vs.length = l.length
  | [], [], _, _, _, _ => rfl
  | a :: r, v :: vs, H, H', x, h => by
    simp only [cvArgs] at h
    split at h
    case h_2 => cases h
    split at h
    case h_2 => cases h
    rename_i h2
    simp [cvArgs_len h2]
  | [], _ :: _, _, _, _, h => by simp [cvArgs] at h
  | _ :: _, [], _, _, _, h => by simp [cvArgs] at h
theorem sF_ok {t : Tbl} (ht : TblOk P t) (hs : NoSpecial P) {pl : Plan} {jq : Code → Nat → Bool} {n : Nat} {f : FuncId} (hf : hasF P f = true) {a b : List VT} : Con.Ok P f ⟨a, b, sF P t pl jq n f a b⟩ := by
  refine ⟨?_, fun x y h => ?_⟩
  · unfold hasF at hf
    split at hf
    · rename_i fn h; rw [funF_eq] at h; exact ⟨fn, h, hf⟩
    · cases hf
  · dsimp only at x y h ⊢
    unfold sF at h
    obtain ⟨v, H', nx', ⟨_, a1, a2, a3, a4⟩, h1⟩ := callK_ok (evS_ok ht hs n _) h
    have h6 := cond_some h1
    clear h1
    obtain ⟨hz, h1⟩ := h6
    have hz := Nat.le_of_ble_eq_true hz
    split at h1
    case h_2 => cases h1
    rename_i y' H2 hcv
    cases h1
    obtain ⟨hg, hr⟩ := cvArgs_ok hcv
    let ν : Nat → Bool := fun _ => false
    have hv0 : VN ν 0 [] := ⟨(fun b n hb => reg_zero hb), (fun b _ => rfl), (fun b hb => by cases hb)⟩
    obtain ⟨v1, o1⟩ := a4 ν hv0
    refine ⟨denH ν H2, nx', hz, a3, fun φ w K us g hfr hl => ?_⟩
    refine Calls.mono (o1.2 φ w K us g hfr (by rw [denL_any a x (rho ν []) (fun _ => bad)]; exact hl)) ?_
    rintro e w' ⟨v', φ', rfl, x1, x2, x3, x4⟩
    obtain ⟨φ2, e1, g2⟩ := hg.2 ν φ' K w' x3
    obtain ⟨us', hu1, hu2⟩ := ret_cv hcv ν H' φ' v' x1
    have hl2 := hr ν H2 (GLe.refl _) φ2 K w' nx' us' g2 (hg.1.vn v1) (hu1.mono (e1 0).1) (fun _ => bad)
    refine ⟨v', φ2, rfl, ?_, x2.trans (e1 nx') a3 (Nat.le_refl _), g2, x4⟩
    rw [retS_den]
    exact hu2 φ2 _ hl2 (by rw [denL_length, mkArgs_len])
end Go.Fz.Sy
/- The symbolic engine, part R1: a loop's places guessed. -/
noncomputable section
namespace Go.Fz.Sy
set_option linter.unusedVariables false
set_option linter.unusedSimpArgs false

/-- The data of cells. -/
def tyCs : List SV → Option Ty
  | [] => some .unit
  | v :: r => match (match v with
      | .bool _ => some .bool
      | .int k _ => some (.int k)
      | .str _ => some .str
      | .lst t _ _ => some (.list t)
      | _ => none), tyCs r with
    | some a, some b => some (match r with
      | [] => a
      | _ => .pair a b)
    | _, _ => none
/-- The cells' types, flat. -/
def flatTy : Ty → List Ty
  | .unit => []
  | .pair a b => flatTy a ++ flatTy b
  | t => [t]
def kindQ : SV → Ty → Bool
  | .bool _, .bool => true
  | .int k _, .int k' => keqF k k'
  | .str _, .str => true
  | .lst _ _ _, .list _ => true
  | .nils, .list _ => true
  | .own _, .list _ => true
  | _, _ => false
def lstTy : SV → Option Ty
  | .lst t _ _ => some t
  | _ => none
def tyQ : Ty → Ty → Bool
  | .unit, .unit => true
  | .bool, .bool => true
  | .int k, .int k' => keqF k k'
  | .str, .str => true
  | .list a, .list b => tyQ a b
  | .pair a b, .pair c d => tyQ a c && tyQ b d
  | _, _ => false
def kindsQ : List SV → List Ty → Bool
  | [], [] => true
  | v :: r, t :: s => (kindQ v t && (match v, t with
    | .lst a _ _, .list b => tyQ a b
    | _, _ => true)) && kindsQ r s
  | _, _ => false
/-- A type of data, its cells' types, those of its cells that grow. -/
structure Cand where
  ty : Ty
  fl : List Ty
  gs : List Nat := []
def pickC (cands : List Cand) (cs : List SV) : Option Cand := match cands with
  | [] => none
  | h :: r => bif kindsQ cs h.fl then some h else pickC r cs
def anyIn (gs : List Nat) (lo hi : Nat) : Bool := gs.any fun g => Nat.ble lo g && Nat.blt g hi
def buildK (H : SH) (cs : List SV) (gs : List Nat) : Ty → Nat → Nat → List CK × Nat
  | .pair a b, i, c => bif anyIn gs i (i + sz (.pair a b)) then match buildK H cs gs a i c with
      | (k1, c1) => match buildK H cs gs b (i + sz a) c1 with
        | (k2, c2) => (k1 ++ k2, c2)
    else ([.d (.pair a b)], c)
  | .list e, i, c => bif memN gs i then (match gl cs i with
      | some (.own b) => match sget H b with
        | some (.arr nn _ _) => ([.o c nn e], c + 1)
        | _ => ([.d (.list e)], c)
      | some .nils => ([.o c false e], c + 1)
      | _ => ([.d (.list e)], c))
    else ([.d (.list e)], c)
  | t, _, c => ([.d t], c)
/-- Cells' data: the first of the types that fit, or what they show. -/
def pickTy (cands : List Cand) (cs : List SV) : Option Ty := match cands with
  | [] => tyCs cs
  | h :: r => bif kindsQ cs h.fl then some h.ty else pickTy r cs
def vtOf (cands : List Cand) : SV → Option VT
  | .bool _ => some ⟨false, .bool⟩
  | .int k _ => some ⟨false, .int k⟩
  | .str _ => some ⟨false, .str⟩
  | .lst t _ _ => some ⟨false, .list t⟩
  | .agg cs => match pickTy cands cs with
    | some t => some ⟨true, t⟩
    | none => none
  | _ => none
def dedup : List Nat → List Nat
  | [] => []
  | a :: r => bif memN r a then dedup r else a :: dedup r
def oprT : Operand → List Nat
  | .tmp t => [t]
  | _ => []
/-- Temporaries through which something may be written. -/
def wOp (W : List Nat) (o : Oper) : List Nat :=
  match o.op with
  | .store _ a _ => oprT a ++ W
  | .lookup _ m _ _ => oprT m ++ W
  | .mapUpdate _ m _ _ => oprT m ++ W
  | .insert _ m _ _ => oprT m ++ W
  | .call c => match c.callee with
    | .value f => oprT f ++ (c.args.toList.flatMap oprT ++ W)
    | .builtin .copy => c.args.toList.flatMap oprT ++ W
    | .builtin .append => match o.dst with
      | some d => c.args.toList.flatMap oprT ++ W
      | none => W
    | _ => W
  | .fieldAddr _ x _ => match o.dst with
    | some d => bif memN W d then oprT x ++ W else W
    | none => W
  | .indexAddr _ x _ => match o.dst with
    | some d => bif memN W d then oprT x ++ W else W
    | none => W
  | .load _ x => match o.dst with
    | some d => bif memN W d then oprT x ++ W else W
    | none => W
  | .move x => match o.dst with
    | some d => bif memN W d then oprT x ++ W else W
    | none => W
  | .nilCheck x => match o.dst with
    | some d => bif memN W d then oprT x ++ W else W
    | none => W
  | .pick _ x y => match o.dst with
    | some d => bif memN W d then oprT x ++ (oprT y ++ W) else W
    | none => W
  | .assign x => match o.dst with
    | some d => bif memN W d then oprT x ++ W else W
    | none => W
  | _ => W
def wOps : List Oper → List Nat → List Nat
  | [], W => W
  | o :: r, W => wOp (wOps r W) o
def wCode : Code → List Nat → List Nat
  | .region _ ops _, W => wOps ops.toList W
  | .seq a b, W => wCode a (wCode b W)
  | .cond _ a b, W => wCode a (wCode b W)
  | .block _ c, W => wCode c W
  | .loop c, W => wCode c W
  | .scope c, W => wCode c W
  | .rangeFunc g _ a b, W => oprT g ++ wCode a (wCode b W)
  | _, W => W
mutual
def ptrsV : SV → List Nat
  | .ptr b _ => [b]
  | .own b => [b]
  | .mp b => [b]
  | .agg cs => ptrsL cs
  | .fn _ fs cs => ptrsL fs ++ ptrsL cs
  | _ => []
def ptrsL : List SV → List Nat
  | [] => []
  | v :: r => ptrsV v ++ ptrsL r
end
def ptrsT (tm : List SV) : List Nat → List Nat
  | [] => []
  | i :: r => (match gl tm i with
    | some v => ptrsV v
    | none => []) ++ ptrsT tm r
def reachS (H : SH) : Nat → List Nat → List Nat
  | 0, l => dedup l
  | n + 1, l => match dedup l with
    | l => reachS H n (l ++ l.flatMap fun b => match sget H b with
      | some (.vars cs) => ptrsL cs
      | some (.ro cs) => ptrsL cs
      | _ => [])
/-- Where records of loops lead. -/
def loopW (H : SH) : List Nat → List Nat
  | [] => []
  | l :: r => (match sget H l with
    | some (.loop L) => ptrsT L.tm (dedup (wCode L.assign (wCode L.body [])))
    | _ => []) ++ loopW H r
/-- What a nil slice is made of: in which loop, in which temporary (none: a variable in a block). -/
structure NilT where
  rid : Nat
  ntm : Nat
  tmp : Option Nat
  ty : Ty
  /-- whether it grows here; or is given other lists -/
  own : Bool := true
def nilT (rid ntm : Nat) (i : Option Nat) : List NilT → Option NilT
  | [] => none
  | h :: r => bif Nat.beq h.rid rid && (Nat.beq h.ntm ntm && (match h.tmp, i with
    | some a, some b => Nat.beq a b
    | none, none => true
    | _, _ => false)) then some h else nilT rid ntm i r
def memR (rid ntm : Nat) : List (Nat × Nat) → Bool
  | [] => false
  | p :: r => bif Nat.beq p.1 rid && Nat.beq p.2 ntm then true else memR rid ntm r
def guessT (cands : List Cand) (ns : List NilT) (rid : Nat) (tm : List SV) (H : SH) (nx : Nat) : List Nat → List DPl × List OPl × Nat
  | [] => ([], [], 0)
  | i :: r => match guessT cands ns rid tm H nx r with
    | (dl, ol, g) => match gl tm i with
      | some (.own b) => match sget H b with
        | some (.arr nn t _) => match nilT rid tm.length (some i) ns with
          | some ⟨_, _, _, _, false⟩ => (.tmp i ⟨false, .list t⟩ :: dl, ol, g)
          | _ => (dl, .otmp i (nx + g) nn t :: ol, g + 1)
        | some (.fro _ t _) => (.tmp i ⟨false, .list t⟩ :: dl, ol, g)
        | _ => (dl, ol, g)
      | some .nils => match nilT rid tm.length (some i) ns with
        | some h => bif h.own then (dl, .otmp i (nx + g) false h.ty :: ol, g + 1) else (.tmp i ⟨false, .list h.ty⟩ :: dl, ol, g)
        | none => (dl, ol, g)
      | some v => match vtOf cands v with
        | some vt => (.tmp i vt :: dl, ol, g)
        | none => (dl, ol, g)
      | none => (dl, ol, g)
def guessB (cands : List Cand) (ns : List NilT) (rid : Nat) (tm : List SV) (H : SH) (nx : Nat) (own : List Nat) : List Nat → List DPl × List OPl × Nat → List DPl × List OPl × Nat
  | [], x => x
  | b :: r, x => match guessB cands ns rid tm H nx own r x with
    | (dl, ol, g) => match sget H b with
      | some (.vars [.own c]) => match sget H c with
        | some (.arr nn t _) => (dl, .sblk b [.o (nx + g) nn t] :: ol, g + 1)
        | some (.fro _ t _) => (.blk b (.list t) :: dl, ol, g)
        | _ => (dl, ol, g)
      | some (.vars [.nils]) => match nilT rid tm.length none ns with
        | some h => bif h.own then (dl, .sblk b [.o (nx + g) false h.ty] :: ol, g + 1) else (.blk b (.list h.ty) :: dl, ol, g)
        | none => (dl, ol, g)
      | some (.vars cs) => match pickC cands cs with
        | some h => match buildK H cs h.gs h.ty 0 (nx + g) with
          | (ks, c') => bif ks.all (fun k => match k with
              | .d _ => true
              | .o _ _ _ => false) then (.blk b h.ty :: dl, ol, g) else (.frz b ks :: dl, .sblk b ks :: ol, c' - nx)
        | none => match tyCs cs with
          | some t => (.blk b t :: dl, ol, g)
          | none => (dl, ol, g)
      | some (.arr nn t _) => bif memN own b then (dl, ol, g) else (dl, .arr b nn t :: ol, g)
      | some (.mpb k ag t _) => (dl, .mpl b k ag t :: ol, g)
      | _ => (dl, ol, g)
/-- Arrays that go with a temporary of their own, or with a block's. -/
def ownsV : List SV → List Nat
  | [] => []
  | .own c :: r => c :: ownsV r
  | _ :: r => ownsV r
def ownsIn (tm : List SV) (H : SH) (bs : List Nat) : List Nat → List Nat
  | [] => bs.flatMap fun b => match sget H b with
    | some (.vars cs) => ownsV cs
    | _ => []
  | i :: r => match gl tm i with
    | some (.own b) => b :: ownsIn tm H bs r
    | _ => ownsIn tm H bs r
/-! ### What a round reads before it writes -/
def opsT (l : List Operand) : List Nat := l.flatMap oprT
def without (D : List Nat) : List Nat → List Nat
  | [] => []
  | a :: r => bif memN D a then without D r else a :: without D r
def both (D : List Nat) : List Nat → List Nat
  | [] => []
  | a :: r => bif memN D a then a :: both D r else both D r
def lvOps : List Oper → List Nat → List Nat × List Nat
  | [], D => ([], D)
  | o :: r, D => match lvOps r (o.dst.toList ++ D) with
    | (us, D') => (without D (opsT o.op.operands.toList) ++ us, D')
def lvC : Code → List Nat → List Nat × List Nat
  | .region _ ops _, D => lvOps ops.toList D
  | .seq a b, D => match lvC a D with
    | (ra, Da) => match lvC b Da with
      | (rb, Db) => (ra ++ rb, Db)
  | .cond c a b, D => match lvC a D with
    | (ra, Da) => match lvC b D with
      | (rb, Db) => (without D (oprT c) ++ (ra ++ rb), both Da Db)
  | .block _ c, D => lvC c D
  | .loop c, D => lvC c D
  | .scope c, D => lvC c D
  | .rangeFunc g _ a b, D => match lvC a D with
    | (ra, Da) => match lvC b Da with
      | (rb, _) => (without D (oprT g) ++ (ra ++ rb), D)
  | _, D => ([], D)
def asgOps : List Oper → List Nat
  | [] => []
  | o :: r => match o.op with
    | .assign _ => o.dst.toList ++ asgOps r
    | _ => asgOps r
def asgV : Code → List Nat
  | .region _ ops _ => asgOps ops.toList
  | .seq a b => asgV a ++ asgV b
  | .cond _ a b => asgV a ++ asgV b
  | .block _ c => asgV c
  | .loop c => asgV c
  | .scope c => asgV c
  | _ => []
/-- Whether code calls. -/
def callsQ : Code → Bool
  | .region _ ops _ => ops.toList.any fun o => match o.op with
    | .call { callee := .value _, .. } => true
    | _ => false
  | .seq a b => callsQ a || callsQ b
  | .cond _ a b => callsQ a || callsQ b
  | .block _ c => callsQ c
  | .loop c => callsQ c
  | .scope c => callsQ c
  | .rangeFunc _ _ _ _ => true
  | _ => false
/-- The guess; un: loops to be unrolled. -/
def planA (cands : List Cand) (un : List (Nat × Nat)) (ns : List NilT) : Plan := fun c tm H nx => match firstR c with
  | some rid => bif memR rid tm.length un then none else
    match both (asgV c ++ (lvC c []).1) (dedup (asg c)) with
    | as => match reachS H 3 (ptrsT tm (dedup (wCode c (wCode c []))) ++ (bif callsQ c then loopW H (namesS H) else [])) with
      | bs => some (guessB cands ns rid tm H nx (ownsIn tm H bs as) bs (guessT cands ns rid tm H nx as))
  | none => none
/-! ### Which code's ways are told as data -/
def exitsQ (i : Nat) : Code → Bool
  | .exit j => Nat.beq i j
  | .seq a b => exitsQ i a || exitsQ i b
  | .cond _ a b => exitsQ i a || exitsQ i b
  | .block _ c => exitsQ i c
  | .loop c => exitsQ i c
  | .scope c => exitsQ i c
  | .rangeFunc _ _ a b => exitsQ i a || exitsQ i b
  | _ => false
/-- Whether code may go on behind. -/
def mayN : Code → Bool
  | .ret => false
  | .exit _ => false
  | .goto _ => false
  | .seq a b => mayN a && mayN b
  | .cond _ a b => mayN a || mayN b
  | .block i c => mayN c || exitsQ i c
  | .loop _ => false
  | _ => true
def guardQ (ops : Array Oper) : Bool := ops.toList.any fun o => o.guard.isSome
def idleQ : Code → Bool
  | .skip => true
  | .exit _ => true
  | .ret => true
  | .goto _ => true
  | _ => false
def joinQ (g : Bool) : Code → Bool
  | .cond _ a b => (mayN a && (mayN b && !(idleQ a && idleQ b))) || (g && ((mayN a || mayN b) && !(idleQ a && idleQ b)))
  | .seq (.region _ ops _) (.cond c a b) => joinQ (g || guardQ ops) (.cond c a b)
  | _ => false
def autoJ (ex : List (Nat × Nat)) (c : Code) (ntm : Nat) : Bool := bif joinQ false c then (match firstR c with
  | some rid => !memR rid ntm ex
  | none => false) else false
end Go.Fz.Sy
/- The symbolic engine, part RE: a law's arguments, read as data; from what a law's function makes of data to its row. -/
noncomputable section
namespace Go.Fz.Sy
set_option linter.unusedVariables false
set_option linter.unusedSimpArgs false
variable {P : Program} {w : World}
open Go.RowKit Go.ChangeShapes Go.WideShapes

/-! ### Data of a type, within its bounds -/
def wfT : (t : Ty) → T t → Prop
  | .unit, _ => True
  | .bool, _ => True
  | .int k, n => k.min ≤ n ∧ n ≤ k.max
  | .str, s => s.size ≤ maxLen
  | .list t, l => List.length (α := T t) l ≤ maxLen ∧ ∀ x : T t, List.Mem x l → wfT t x
  | .pair a b, x => wfT a x.1 ∧ wfT b x.2

/-! ### Which types of the program are which types of data -/
def fitFs (ft : TypeId → Ty → Bool) (cz : TypeId → Nat) : List Field → Nat → Ty → Bool
  | [], _, .unit => true
  | [f], off, y => Nat.beq f.offset off && (ft f.type y && Nat.beq (sz y) (cz f.type))
  | f :: g :: fs, off, .pair a b => Nat.beq f.offset off && (ft f.type a && (Nat.beq (sz a) (cz f.type) && fitFs ft cz (g :: fs) (off + sz a) b))
  | _, _, _ => false
def fitAr (ft : Ty → Bool) (cz : Nat) : Nat → Ty → Bool
  | 0, .unit => true
  | 1, y => ft y && Nat.beq (sz y) cz
  | n + 2, .pair a b => ft a && (Nat.beq (sz a) cz && fitAr ft cz (n + 1) b)
  | _, _ => false
def fitT (P : Program) : Nat → TypeId → Ty → Bool
  | 0, _, _ => false
  | n + 1, t, y => match P.underlying t, y with
    | some .bool, .bool => true
    | some (.int k), .int k' => decide (k = k')
    | some .string, .str => true
    | some (.slice e), .list y => fitT P n e y && (Nat.blt 0 (sz y) && Nat.beq (sz y) (P.cellsOf e))
    | some (.struct fs), y => fitFs (fitT P n) P.cellsOf fs.toList 0 y && Nat.beq (sz y) (P.cellsOf t)
    | some (.array m e), y => fitAr (fitT P n e) (P.cellsOf e) m y && Nat.beq (sz y) (P.cellsOf t)
    | _, _ => false

/-- All rows that the world holds, frozen. -/
def worldRen (w : World) : Ren := fun n => if FZ ≤ n then match w.heap[n - FZ]? with
  | some (.cells a _ _) => some ⟨n - FZ, 0, 0, a⟩
  | _ => none else none
theorem worldRen_at {b : Nat} {a : Array Value} {el : TypeId} {fr : Nat × Nat} (h : w.heap[b]? = some (.cells a el fr)) : worldRen w (FZ + b) = some ⟨b, 0, 0, a⟩ := by
  have h1 : FZ ≤ FZ + b := by omega
  have h2 : FZ + b - FZ = b := by omega
  simp only [worldRen, h1, if_true, h2, h]
theorem good_world (w : World) : Good (worldRen w) [] (fun c => c < w.heap.size) w := by
  refine ⟨fun b k h => by simp [Hp.get_nil] at h, fun b c k k' L L' h => by simp [Hp.get_nil] at h, fun b k L h => by simp [Hp.get_nil] at h, fun c hc => hc, fun b L hL => ?_, fun b k L c M h => by simp [Hp.get_nil] at h⟩
  have h1 : FZ ≤ FZ + b := by omega
  have h2 : FZ + b - FZ = b := by omega
  simp only [worldRen, h1, if_true, h2] at hL
  split at hL
  · rename_i a el fr ha
    cases hL
    exact ⟨rfl, rfl, a, el, fr, ha, fun j u h => h⟩
  · cases hL
theorem fresh_world (w : World) {n m : Nat} (hm : m ≤ FZ) : Fresh (worldRen w) n m := ⟨hm, fun b h1 h2 => by
  have : ¬ FZ ≤ b := by omega
  simp only [worldRen, this, if_false]⟩
theorem calls_open {f : FuncId} {args : List Value} {H' : Hp} {n' : Nat} (hz : n' ≤ FZ) (hm : CallOk P f args [] 0 (.bool true) H' n') {us : List Value} (hl : LRel (worldRen w) args us) :
    Calls P f us.toArray w fun e w' => e = .returned (.bool true) ∧ Below w.heap.size w w' := by
  refine Calls.mono (hm.2 (worldRen w) w (fun c => c < w.heap.size) us (good_world w) (fresh_world w hz) hl) ?_
  rintro e w' ⟨v', φ', rfl, x1, x2, x3, x4⟩
  cases x1
  exact ⟨rfl, below_of_went x4⟩
section
variable {H : Type} {enc : TypeId × Value → H} {base : Nat} {spare : Nat → Bool} {held : Bool}
theorem lrel_app {φ : Ren} : ∀ {a b x y : List Value}, LRel φ a x → LRel φ b y → LRel φ (a ++ b) (x ++ y)
  | [], _, [], _, _, h => h
  | _ :: _, _, _ :: _, _, h, k => ⟨h.1, lrel_app h.2 k⟩
  | [], _, _ :: _, _, h, _ => h.elim
  | _ :: _, _, [], _, h, _ => h.elim
theorem list_pick {α : Type} {Φ : Nat → α → Prop} : ∀ (n : Nat), (∀ i, i < n → ∃ q, Φ i q) → ∃ l : List α, l.length = n ∧ ∀ i q, l[i]? = some q → Φ i q
  | 0, _ => ⟨[], rfl, fun i q h => by simp at h⟩
  | n + 1, h => by
    obtain ⟨l, hl, hq⟩ := list_pick n fun i hi => h i (by omega)
    obtain ⟨q, hn⟩ := h n (by omega)
    refine ⟨l ++ [q], by simp [hl], fun i q' hi => ?_⟩
    by_cases hlt : i < l.length
    · rw [List.getElem?_append_left hlt] at hi; exact hq i q' hi
    · rw [List.getElem?_append_right (by omega)] at hi
      have : i - l.length = 0 := by
        have := (List.getElem?_eq_some_iff.1 hi).1
        simp at this; omega
      rw [this] at hi
      simp at hi
      subst hi
      have : i = n := by omega
      rw [this]; exact hn
/-- What a type's reading tells. -/
def ReadsT (w : World) (y : Ty) (cs : List Value) : Prop := ∃ a : T y, wfT y a ∧ LRel (worldRen w) (encC y a) cs
theorem fitFs_of {ft : TypeId → Ty → Bool} {cz : TypeId → Nat} {cs : List Value} : ∀ {fs : List Field} {off : Nat} {y : Ty}, fitFs ft cz fs off y = true →
    (∀ f ∈ fs, ∀ z, ft f.type z = true → ReadsT w z ((cs.drop f.offset).take (cz f.type))) → off + sz y = cs.length → ReadsT w y (cs.drop off)
  | [], off, .unit, h, hf, hl => ⟨(), trivial, by
      have : cs.drop off = [] := by simp [sz] at hl ⊢; omega
      rw [this]; trivial⟩
  | [f], off, y, h, hf, hl => by
    simp only [fitFs, Bool.and_eq_true] at h
    obtain ⟨h1, h2, h3⟩ := h
    have h1 := Nat.eq_of_beq_eq_true h1
    have h3 := Nat.eq_of_beq_eq_true h3
    have := hf f (by simp) y h2
    rw [h1, ← h3, List.take_of_length_le (by simp; omega)] at this
    exact this
  | f :: g :: fs, off, .pair a b, h, hf, hl => by
    simp only [fitFs, Bool.and_eq_true] at h
    obtain ⟨h1, h2, h3, h4⟩ := h
    have h1 := Nat.eq_of_beq_eq_true h1
    have h3 := Nat.eq_of_beq_eq_true h3
    obtain ⟨x, wx, rx⟩ := hf f (by simp) a h2
    simp only [sz] at hl
    obtain ⟨z, wz, rz⟩ := fitFs_of (cs := cs) h4 (fun q hq => hf q (by simp only [List.mem_cons] at hq ⊢; exact .inr hq)) (by omega)
    refine ⟨(x, z), ⟨wx, wz⟩, ?_⟩
    rw [h1, ← h3] at rx
    have e : cs.drop off = (cs.drop off).take (sz a) ++ cs.drop (off + sz a) := by
      rw [← List.drop_drop]; exact (List.take_append_drop _ _).symm
    rw [e]
    exact lrel_app rx rz
  | [], _, .bool, h, _, _ => by simp [fitFs] at h
  | [], _, .int _, h, _, _ => by simp [fitFs] at h
  | [], _, .str, h, _, _ => by simp [fitFs] at h
  | [], _, .list _, h, _, _ => by simp [fitFs] at h
  | [], _, .pair _ _, h, _, _ => by simp [fitFs] at h
  | _ :: _ :: _, _, .unit, h, _, _ => by simp [fitFs] at h
  | _ :: _ :: _, _, .bool, h, _, _ => by simp [fitFs] at h
  | _ :: _ :: _, _, .int _, h, _, _ => by simp [fitFs] at h
  | _ :: _ :: _, _, .str, h, _, _ => by simp [fitFs] at h
  | _ :: _ :: _, _, .list _, h, _, _ => by simp [fitFs] at h
theorem fitAr_of {ft : Ty → Bool} {cz : Nat} {cs : List Value} {N : Nat} (hf : ∀ i, i < N → ∀ z, ft z = true → ReadsT w z ((cs.drop (i * cz)).take cz)) : ∀ {m : Nat} {y : Ty} {i : Nat}, fitAr ft cz m y = true → i + m = N → i * cz + sz y = cs.length → ReadsT w y (cs.drop (i * cz))
  | 0, .unit, i, h, hN, hl => ⟨(), trivial, by
      have : cs.drop (i * cz) = [] := by simp [sz] at hl ⊢; omega
      rw [this]; trivial⟩
  | 1, y, i, h, hN, hl => by
    simp only [fitAr, Bool.and_eq_true] at h
    obtain ⟨h1, h2⟩ := h
    have h2 := Nat.eq_of_beq_eq_true h2
    have := hf i (by omega) y h1
    rw [← h2, List.take_of_length_le (by simp; rw [← h2] at hl; omega)] at this
    rw [← h2]; exact this
  | m + 2, .pair a b, i, h, hN, hl => by
    simp only [fitAr, Bool.and_eq_true] at h
    obtain ⟨h1, h2, h3⟩ := h
    have h2 := Nat.eq_of_beq_eq_true h2
    obtain ⟨x, wx, rx⟩ := hf i (by omega) a h1
    simp only [sz] at hl
    have e1 : (i + 1) * cz = i * cz + cz := by rw [Nat.add_mul, Nat.one_mul]
    obtain ⟨z, wz, rz⟩ := fitAr_of hf (m := m + 1) (i := i + 1) h3 (by omega) (by rw [e1]; omega)
    refine ⟨(x, z), ⟨wx, wz⟩, ?_⟩
    have e : cs.drop (i * cz) = (cs.drop (i * cz)).take cz ++ cs.drop ((i + 1) * cz) := by
      rw [e1, ← List.drop_drop]; exact (List.take_append_drop _ _).symm
    rw [e]
    exact lrel_app rx rz
  | 0, .bool, _, h, _, _ => by simp [fitAr] at h
  | 0, .int _, _, h, _, _ => by simp [fitAr] at h
  | 0, .str, _, h, _, _ => by simp [fitAr] at h
  | 0, .list _, _, h, _, _ => by simp [fitAr] at h
  | 0, .pair _ _, _, h, _, _ => by simp [fitAr] at h
  | _ + 2, .unit, _, h, _, _ => by simp [fitAr] at h
  | _ + 2, .bool, _, h, _, _ => by simp [fitAr] at h
  | _ + 2, .int _, _, h, _, _ => by simp [fitAr] at h
  | _ + 2, .str, _, h, _, _ => by simp [fitAr] at h
  | _ + 2, .list _, _, h, _, _ => by simp [fitAr] at h
theorem slice_of {e : TypeId} {y : Ty} {cs : List Value} {t : TypeId} {fuel : Nat} {x : DataW H × List MemPlace} (hu : P.underlying t = some (.slice e)) (h : DataW.trod enc P w base spare held fuel t cs = some x)
    (ih : ∀ {fuel : Nat} {cs : List Value} {x : DataW H × List MemPlace}, DataW.trod enc P w base spare held fuel e cs = some x → ReadsT w y cs) (hs : 0 < sz y) (hz : sz y = P.cellsOf e) : ReadsT w (.list y) cs := by
  rcases DataW.trod_slice hu h with ⟨rfl, _⟩ | ⟨a, len, cap, elems, rest, m, _, rfl, _, hb, hl, hm, hlen, hel, _, _⟩
  · exact ⟨([] : List (T y)), ⟨Nat.zero_le _, fun x hx => by cases hx⟩, by
      have := VRel.fz0 (φ := worldRen w) (sz y) none 0
      exact ⟨this, trivial⟩⟩
  · have hall : ∀ i, i < len → ∃ q : T y, wfT y q ∧ ∃ us, LRel (worldRen w) (encC y q) us ∧ us.length = sz y ∧ ∀ j, j < sz y → w.cell? ((a.add (i * sz y)).add j) = us[j]? := fun i hi => by
      have h1 := hel i hi
      obtain ⟨z, hz2⟩ : ∃ z, elems[i]? = some z := ⟨elems[i], List.getElem?_eq_getElem (by omega)⟩
      rw [hz2, Option.bind_eq_some_iff] at h1
      obtain ⟨us, h2, h3⟩ := h1
      obtain ⟨q, q1, q2⟩ := ih h3
      obtain ⟨_, h4, h5⟩ := World.cells?_some h2
      rw [← hz] at h4 h5
      exact ⟨q, q1, us, q2, h4, h5⟩
    obtain ⟨l, hll, hl2⟩ := list_pick len hall
    refine ⟨l, ⟨by show l.length ≤ maxLen; omega, fun q hq => ?_⟩, ?_⟩
    · obtain ⟨i, hi⟩ := List.getElem?_of_mem hq
      exact (hl2 i q hi).1
    · show LRel (worldRen w) [fzV (sz y) false (l.map fun x => Value.agg (encC y x).toArray)] [Value.slice (some a) len cap]
      refine ⟨?_, trivial⟩
      by_cases h0 : len = 0
      · subst h0
        obtain rfl : l = [] := List.length_eq_zero_iff.1 hll
        exact VRel.fz0 _ _ _
      · -- the block
        obtain ⟨q0, hq0⟩ : ∃ q, l[0]? = some q := ⟨l[0], List.getElem?_eq_getElem (by omega)⟩
        obtain ⟨_, us0, r0, l0, c0⟩ := hl2 0 q0 hq0
        have c00 := c0 0 hs
        have : ∃ v, us0[0]? = some v := ⟨us0[0], List.getElem?_eq_getElem (by omega)⟩
        obtain ⟨v0, hv0⟩ := this
        obtain ⟨b, o, sp⟩ := a
        have e0 : ((⟨b, o, sp⟩ : Addr).add (0 * sz y)).add 0 = ⟨b, o, sp⟩ := by simp [Addr.add]
        rw [e0, hv0] at c00
        unfold World.cell? at c00
        cases hh : w.heap[b]? with
        | none => rw [hh] at c00; simp at c00
        | some ob =>
          rw [hh] at c00
          cases ob with
          | cells arr el fr =>
            have hsp : sp = none := by
              cases sp with
              | none => rfl
              | some s => simp at c00
            subst hsp
            have hcell : ∀ k, w.cell? (⟨b, k, none⟩ : Addr) = arr[k]? := fun k => by
              unfold World.cell?
              rw [hh]; rfl
            have hat : ∀ i (q : T y), l[i]? = some q → ∃ us, LRel (worldRen w) (encC y q) us ∧ us.length = sz y ∧ ∀ j, j < sz y → arr[o + i * sz y + j]? = us[j]? := fun i q hi => by
              obtain ⟨_, us, r, hlu, hc⟩ := hl2 i q hi
              refine ⟨us, r, hlu, fun j hj => ?_⟩
              have := hc j hj
              rw [Addr.add_none, Addr.add_none, hcell] at this
              exact this
            have hsz : ∀ (j : Nat) e, (l.map fun x => Value.agg (encC y x).toArray).toArray[j]? = some e → e.cells.size = sz y := fun j e he => by
              simp only [List.getElem?_toArray, List.getElem?_map, Option.map_eq_some_iff] at he
              obtain ⟨q, _, rfl⟩ := he
              simp [Value.cells, encC_len]
            have hsize : (l.map fun x => Value.agg (encC y x).toArray).toArray.size = len := by simp [hll]
            have key := VRel.fz (φ := worldRen w) (sz y) (l.map fun x => Value.agg (encC y x).toArray).toArray b o cap ⟨b, 0, 0, arr⟩ (worldRen_at hh) (by rw [hsize]; omega) (by
                rw [hsize]
                obtain ⟨q, hq⟩ : ∃ q, l[len - 1]? = some q := ⟨l[len - 1], List.getElem?_eq_getElem (by omega)⟩
                obtain ⟨us, r, hlu, hc⟩ := hat (len - 1) q hq
                have h1 := hc (sz y - 1) (by omega)
                have : ∃ v, us[sz y - 1]? = some v := ⟨us[sz y - 1], List.getElem?_eq_getElem (by omega)⟩
                obtain ⟨v, hv⟩ := this
                rw [hv] at h1
                have h2 := (Array.getElem?_eq_some_iff.1 h1).1
                have h3 : len * sz y = (len - 1) * sz y + sz y := by
                  have : len = (len - 1) + 1 := by omega
                  rw [this, Nat.add_mul, Nat.one_mul]; simp
                show o + len * sz y ≤ arr.size
                omega) (by rw [hsize]; omega) hsz (fun j k e u u' he hu hu' => by
                simp only [List.getElem?_toArray, List.getElem?_map, Option.map_eq_some_iff] at he
                obtain ⟨q, hq, rfl⟩ := he
                obtain ⟨us, r, hlu, hc⟩ := hat j q hq
                simp only [Value.cells, List.getElem?_toArray] at hu
                have hk : k < sz y := by
                  have := (List.getElem?_eq_some_iff.1 hu).1
                  rw [encC_len] at this; exact this
                obtain ⟨v', hv', hr⟩ := r.get hu
                have : arr[o + j * sz y + k]? = some u' := hu'
                rw [hc k hk, hv'] at this
                cases this
                exact hr)
            rw [hsize] at key
            exact key
          | _ => simp at c00
theorem trod_T : ∀ (n : Nat) {t : TypeId} {y : Ty} {fuel : Nat} {cs : List Value} {x : DataW H × List MemPlace}, fitT P n t y = true → DataW.trod enc P w base spare held fuel t cs = some x → ReadsT w y cs
  | 0, _, _, _, _, _, h, _ => by cases h
  | n + 1, t, y, 0, cs, x, _, h => by cases h
  | n + 1, t, y, fuel + 1, cs, x, h, hx => by
    simp only [fitT] at h
    split at h
    · rename_i hu
      simp only [DataW.trod, hu] at hx
      split at hx <;> first | (rename_i e1 e2; cases e1; done) | skip
      all_goals first | (exact ⟨_, trivial, .bool _, trivial⟩) | (simp_all; done) | cases hx
    · rename_i k k' hu
      have hk : k = k' := of_decide_eq_true h
      subst hk
      obtain ⟨m, h1, h2, h3⟩ := DataW.trod_int hu hx
      subst h1
      simp only [Lit.wf, Bool.and_eq_true, decide_eq_true_eq] at h3
      exact ⟨m, h3, .int _ _, trivial⟩
    · rename_i hu
      obtain ⟨s, h1, h2, h3⟩ := DataW.trod_string hu hx
      subst h1
      exact ⟨s, h3, .str _, trivial⟩
    · rename_i e y' hu
      simp only [Bool.and_eq_true] at h
      obtain ⟨h1, h2, h3⟩ := h
      exact slice_of hu hx (fun hy => trod_T n h1 hy) (by simpa using h2) (Nat.eq_of_beq_eq_true h3)
    · rename_i fs hu
      simp only [Bool.and_eq_true] at h
      obtain ⟨h1, h2⟩ := h
      have h2 := Nat.eq_of_beq_eq_true h2
      obtain ⟨xs, m, _, rfl, hl, hlen, hf⟩ := DataW.trod_struct hu hx
      have := fitFs_of (w := w) (cs := cs) h1 (fun f hf2 z hz => by
        obtain ⟨i, hi⟩ := List.getElem?_of_mem hf2
        have h4 := hf i f (by simpa using hi)
        have hlt : i < xs.length := by
          have := (List.getElem?_eq_some_iff.1 hi).1
          rw [hlen]; simpa using this
        rw [List.getElem?_eq_getElem hlt] at h4
        exact trod_T n hz h4) (by rw [hl, h2, Nat.zero_add])
      simpa using this
    · rename_i m e hu
      simp only [Bool.and_eq_true] at h
      obtain ⟨h1, h2⟩ := h
      have h2 := Nat.eq_of_beq_eq_true h2
      obtain ⟨xs, q, _, rfl, hl, hlen, hf⟩ := DataW.trod_array hu hx
      have := fitAr_of (w := w) (cs := cs) (N := m) (cz := P.cellsOf e) (fun i hi z hz => by
        have h4 := hf i hi
        have hlt : i < xs.length := by omega
        rw [List.getElem?_eq_getElem hlt] at h4
        exact trod_T n hz h4) (m := m) (i := 0) h1 (by omega) (by rw [hl, h2]; simp)
      simpa using this
    · cases h

/-! ### Arguments -/
def aggQ (P : Program) (t : TypeId) : Bool := match P.underlying t with
  | some (.struct _) => true
  | some (.array _ _) => true
  | _ => false
def fitArgs (P : Program) (n : Nat) : List TypeId → List VT → Bool
  | [], [] => true
  | t :: ts, v :: vs => fitT P n t v.ty && ((bif aggQ P t then v.agg else !v.agg) && fitArgs P n ts vs)
  | _, _ => false
theorem lrel_one {φ : Ren} {x v : Value} {a : List Value} (h : LRel φ a [v]) (ha : a = [x]) : VRel φ x v := by subst ha; exact h.1
theorem arg_T {n : Nat} {t : TypeId} {vt : VT} {r : Reach} {b0 : Nat} {v : Value} {d : DataW H} {ps : List MemPlace} (hf : fitT P n t vt.ty = true) (ha : (bif aggQ P t then vt.agg else !vt.agg) = true) (hv : Value.okWide P w r b0 t v) (hd : DataW.Trod enc P w base spare held t v d ps) :
    ∃ x : T vt.ty, wfT vt.ty x ∧ ∀ ρ, VRel (worldRen w) (den ρ (mkV vt x)) v := by
  obtain ⟨ag, ty⟩ := vt
  obtain ⟨fuel, hd⟩ := hd
  obtain ⟨x, wx, rx⟩ := trod_T n hf hd
  refine ⟨x, wx, fun ρ => ?_⟩
  cases ag with
  | true =>
    have hag : aggQ P t = true := by
      cases h : aggQ P t with
      | true => rfl
      | false => rw [h] at ha; cases ha
    have : ∃ cs, v = .agg cs := by
      unfold aggQ at hag
      unfold Value.okWide at hv
      split at hv
      · obtain ⟨cs, h1, _⟩ := hv; exact ⟨cs, h1⟩
      · obtain ⟨cs, h1, _⟩ := hv; exact ⟨cs, h1⟩
      · rename_i h1 h2
        split at hag
        · rename_i h3; exact absurd h3 (h1 _)
        · rename_i h3; exact absurd h3 (h2 _ _)
        · cases hag
    obtain ⟨cs, rfl⟩ := this
    simp only [mkV, cond_true, den]
    refine .agg' ?_
    rw [denL_map, encL_den]
    exact rx
  | false =>
    have hag : aggQ P t = false := by
      cases h : aggQ P t with
      | true => rw [h] at ha; cases ha
      | false => rfl
    have hcell : v.cells.toList = [v] := by
      unfold aggQ at hag
      unfold Value.okWide at hv
      split at hv
      · rename_i h1; simp only [h1] at hag; cases hag
      · rename_i h1; simp only [h1] at hag; cases hag
      · cases v with
        | agg cs =>
          unfold Cell.okWide at hv
          split at hv <;> first | (exfalso; revert hv; unfold Cell.ok; split <;> simp_all; done) | (rename_i e1 e2; cases e2)
        | _ => rfl
    rw [hcell] at rx
    have hlen := rx.length
    have h2 := encL_den ρ ty x
    simp only [mkV, cond_false]
    match he : encL ty x with
    | [u] =>
      rw [he] at h2
      exact lrel_one rx h2.symm
    | [] => rw [he] at h2; rw [← h2] at hlen; simp at hlen
    | _ :: _ :: _ => rw [he] at h2; rw [← h2] at hlen; simp at hlen
theorem args_T {n : Nat} {r : Reach} {b0 : Nat} : ∀ {ts : List TypeId} {a : List VT} {us : List Value} {ds : List (DataW H)} {ps : List MemPlace}, fitArgs P n ts a = true →
    (∀ (j : Nat) t v, ts[j]? = some t → us[j]? = some v → Value.okWide P w r b0 t v) → DataW.TrodAll enc P w base spare held ts us ds ps →
    ∃ x : T (prodTy a), wfT (prodTy a) x ∧ ∀ ρ, LRel (worldRen w) (denL ρ (mkArgs a x)) us
  | [], [], us, ds, ps, _, _, h => by
    obtain ⟨rfl, _, _⟩ := trodAll_nil h
    exact ⟨(), trivial, fun ρ => trivial⟩
  | t :: ts, v :: a, us, ds, ps, hf, hv, h => by
    simp only [fitArgs, Bool.and_eq_true] at hf
    obtain ⟨f1, f2, f3⟩ := hf
    obtain ⟨u, us', d, ds', p, q, rfl, rfl, rfl, h1, h2⟩ := trodAll_cons h
    obtain ⟨x, wx, rx⟩ := arg_T f1 f2 (hv 0 t u rfl rfl) h1
    obtain ⟨y, wy, ry⟩ := args_T (ts := ts) (a := a) f3 (fun j t v ht hv2 => hv (j + 1) t v (by simpa using ht) (by simpa using hv2)) h2
    exact ⟨(x, y), ⟨wx, wy⟩, fun ρ => ⟨rx ρ, ry ρ⟩⟩
  | [], _ :: _, _, _, _, hf, _, _ => by simp [fitArgs] at hf
  | _ :: _, [], _, _, _, hf, _, _ => by simp [fitArgs] at hf
theorem trodAll_len : ∀ {ts : List TypeId} {us : List Value} {ds : List (DataW H)} {ps : List MemPlace}, DataW.TrodAll enc P w base spare held ts us ds ps → ds.length = ts.length
  | [], _, _, _, h => by
    obtain ⟨_, rfl, _⟩ := trodAll_nil h
    rfl
  | t :: ts, us, ds, ps, h => by
    obtain ⟨u, us', d, ds', p, q, rfl, rfl, rfl, h1, h2⟩ := trodAll_cons h
    rw [List.length_cons, List.length_cons, trodAll_len h2]
/-- The call of a law's function. -/
theorem calls_law {f : FuncId} {a : List VT} {G : T (prodTy a) → Option (T (prodTy [⟨false, .bool⟩]))} (hc : Con.Ok P f ⟨a, [⟨false, .bool⟩], G⟩) (hG : ∀ x, wfT (prodTy a) x → G x = some (true, ())) {n : Nat} {r : Reach} {b0 : Nat} {ts : List TypeId} {us : List Value} {ds : List (DataW H)} {ps : List MemPlace} (hf : fitArgs P n ts a = true)
    (hv : ∀ (j : Nat) t v, ts[j]? = some t → us[j]? = some v → Value.okWide P w r b0 t v) (h : DataW.TrodAll enc P w base spare held ts us ds ps) :
    Calls P f us.toArray w fun e w' => e = .returned (.bool true) ∧ Below w.heap.size w w' := by
  obtain ⟨x, wx, rx⟩ := args_T hf hv h
  obtain ⟨Hd, nx', hz, hcall⟩ := hc.2 x _ (hG x wx)
  exact calls_open hz hcall (rx _)
end
/-! ### A law's arguments, all zero -/
def zcells : Ty → List Value
  | .unit => []
  | .bool => [.bool false]
  | .int k => [.int k 0]
  | .str => [.string ByteArray.empty]
  | .list _ => [.slice none 0 0]
  | .pair a b => zcells a ++ zcells b
def zarg (v : VT) : Value := bif v.agg then .agg (zcells v.ty).toArray else match zcells v.ty with
  | [u] => u
  | _ => .nilFunc
def zargs (a : List VT) : Array Value := (a.map zarg).toArray
/-! ### Tables -/
theorem tblOk_nil : TblOk P [] := fun x h => by cases h
theorem tblOk_cons {f : FuncId} {c : Con} {t : Tbl} (h : c.Ok P f) (ht : TblOk P t) : TblOk P ((f, c) :: t) := fun x hx => by
  rcases List.mem_cons.1 hx with rfl | hx
  · exact h
  · exact ht x hx
/-! ### Closed calls, by the plain evaluator -/
def closedQ (P : Program) (cfg : FuncId → Nat) (n : Nat) (f : FuncId) : Bool := match (ev P cfg n).call f [] [] 0 with
  | some (.bool true, _, nx) => Nat.ble nx FZ
  | _ => false
theorem closed_con {cfg : FuncId → Nat} {n : Nat} {f : FuncId} (hs : NoSpecial P) (h : closedQ P cfg n f = true) : Con.Ok P f ⟨[], [⟨false, .bool⟩], fun _ => some (true, ())⟩ := by
  unfold closedQ at h
  split at h
  · rename_i H' nx' h1
    have hz := Nat.le_of_ble_eq_true h
    exact ⟨(ev_ok hs n).named h1, fun x r hr => by cases hr; exact ⟨H', nx', hz, (ev_ok hs n).call h1⟩⟩
  · cases h
end Go.Fz.Sy
/- The symbolic engine, part RP: plain rules for what the evaluator makes. -/
namespace Go.Fz.Sy
set_option linter.unusedVariables false
set_option linter.unusedSimpArgs false
theorem wr64 {z : Int} (h1 : -9223372036854775808 ≤ z) (h2 : z ≤ 9223372036854775807) : wrF .i64 z = z := by
  rw [wrF_eq]
  have e : IntKind.i64.wrap z = if z % 18446744073709551616 ≥ 9223372036854775808 then z % 18446744073709551616 - 18446744073709551616 else z % 18446744073709551616 := by
    unfold IntKind.wrap
    show (if (true && decide (z % 18446744073709551616 ≥ 9223372036854775808)) = true then z % 18446744073709551616 - 18446744073709551616 else z % 18446744073709551616) = _
    simp only [Bool.true_and, decide_eq_true_eq]
  rw [e]
  split <;> omega
theorem opt_s {α R : Type} (a : α) (f : α → Option R) : opt (some a) f = f a := rfl
theorem opt_n {α R : Type} (f : α → Option R) : opt none f = none := rfl
theorem opt_b {α R : Type} (b : Bool) (x y : Option α) (f : α → Option R) : opt (bif b then x else y) f = bif b then opt x f else opt y f := by cases b <;> rfl
theorem atI_nat {α : Type} (l : List α) (n : Nat) : atI l (n : Int) = l[n]? := by
  show gl l n = _
  exact gl_eq l n
theorem atI_ok {α : Type} {l : List α} {z : Int} (h0 : 0 ≤ z) (h : z < l.length) : ∃ x, atI l z = some x ∧ l[z.toNat]? = some x := by
  obtain ⟨n, rfl⟩ := Int.eq_ofNat_of_zero_le h0
  have hn : n < l.length := by omega
  exact ⟨l[n], by rw [atI_nat]; simp [hn], by simp [hn]⟩
theorem atI_get {α : Type} {l : List α} {n : Nat} {x : α} (h : l[n]? = some x) : atI l (n : Int) = some x := by rw [atI_nat]; exact h
theorem iterK_run {X S : Type} {B : S → Option (X ⊕ S)} {I : S → Prop} {J : X → Prop} {m : S → Nat} (h : ∀ s, I s → (∃ x, B s = some (.inl x) ∧ J x) ∨ (∃ s', B s = some (.inr s') ∧ I s' ∧ m s' < m s)) :
    ∀ (N : Nat) (s : S), I s → m s < N → ∃ x, iterK B N s = some x ∧ J x
  | 0, s, _, hm => by omega
  | N + 1, s, hI, hm => by
    rw [iterK_succ]
    rcases h s hI with ⟨x, hx, hJ⟩ | ⟨s', hs, hI', hlt⟩
    · exact ⟨x, by rw [hx], hJ⟩
    · rw [hs]
      exact iterK_run h N s' hI' (by omega)
/-- A loop that ends: what holds of its state goes on, a number falls. -/
theorem iter_big {X S : Type} {B : S → Option (X ⊕ S)} (I : S → Prop) (J : X → Prop) (m : S → Nat) (h : ∀ s, I s → (∃ x, B s = some (.inl x) ∧ J x) ∨ (∃ s', B s = some (.inr s') ∧ I s' ∧ m s' < m s)) {s : S} (hI : I s) (hm : m s < 1180591620717411303424) :
    ∃ x, iterK B bigN s = some x ∧ J x := iterK_run h bigN s hI (Nat.lt_of_lt_of_le hm bigN_le)
/-- A loop over a list's places. -/
theorem iterK_steps {X S : Type} {B : S → Option (X ⊕ S)} {st : Nat → S} {n : Nat} {x : X} (h : ∀ i, i < n → B (st i) = some (.inr (st (i + 1)))) (hx : B (st n) = some (.inl x)) : ∀ (k i N : Nat), i + k = n → k < N → iterK B N (st i) = some x
  | 0, i, N + 1, hi, hN => by
    have : i = n := by omega
    subst this
    rw [iterK_succ, hx]
  | k + 1, i, N + 1, hi, hN => by
    rw [iterK_succ, h i (by omega)]
    exact iterK_steps h hx k (i + 1) N (by omega) (by omega)
  | _, _, 0, _, hN => by omega
theorem iter_steps {X S : Type} {B : S → Option (X ⊕ S)} (st : Nat → S) (n : Nat) {x : X} {s : S} (hs : s = st 0) (h : ∀ i, i < n → B (st i) = some (.inr (st (i + 1)))) (hx : B (st n) = some (.inl x)) (hn : n < 1180591620717411303424) : iterK B bigN s = some x := by
  subst hs
  exact iterK_steps h hx n 0 bigN (by omega) (Nat.lt_of_lt_of_le hn bigN_le)
/-! ### What ends, and how -/
def Lands {α : Type} (o : Option α) (Q : α → Prop) : Prop := ∃ r, o = some r ∧ Q r
theorem ends_some {α : Type} {a : α} {Q : α → Prop} (h : Q a) : Lands (some a) Q := ⟨a, rfl, h⟩
theorem ends_of {α : Type} {o : Option α} {a : α} {Q : α → Prop} (e : o = some a) (h : Q a) : Lands o Q := ⟨a, e, h⟩
theorem ends_opt {α R : Type} {x : Option α} {f : α → Option R} {Q : R → Prop} (h : Lands x fun a => Lands (f a) Q) : Lands (opt x f) Q := by
  obtain ⟨a, rfl, r, h1, h2⟩ := h
  exact ⟨r, h1, h2⟩
theorem ends_opt' {α R : Type} {x : Option α} {f : α → Option R} {J : α → Prop} {Q : R → Prop} (h : Lands x J) (hf : ∀ a, J a → Lands (f a) Q) : Lands (opt x f) Q := by
  obtain ⟨a, rfl, ha⟩ := h
  exact hf a ha
theorem ends_bif {α : Type} {b : Bool} {x y : Option α} {Q : α → Prop} (h1 : b = true → Lands x Q) (h2 : b = false → Lands y Q) : Lands (bif b then x else y) Q := by
  cases b with
  | true => exact h1 rfl
  | false => exact h2 rfl
theorem ends_mono {α : Type} {o : Option α} {Q Q' : α → Prop} (h : Lands o Q) (hq : ∀ a, Q a → Q' a) : Lands o Q' := by
  obtain ⟨a, e, ha⟩ := h
  exact ⟨a, e, hq a ha⟩
theorem ends_eq {α : Type} {o : Option α} {a : α} (h : Lands o fun r => r = a) : o = some a := by
  obtain ⟨r, e, rfl⟩ := h
  exact e
/-- One round: it goes on, or it is over. -/
def Round {X S : Type} (I : S → Prop) (J : X → Prop) (m : S → Nat) (s : S) (r : X ⊕ S) : Prop := (∀ x, r = .inl x → J x) ∧ ∀ s', r = .inr s' → I s' ∧ m s' < m s
theorem round_out {X S : Type} {I : S → Prop} {J : X → Prop} {m : S → Nat} {s : S} {x : X} (h : J x) : Round I J m s (.inl x) := ⟨fun y e => by cases e; exact h, fun s' e => by cases e⟩
theorem round_on {X S : Type} {I : S → Prop} {J : X → Prop} {m : S → Nat} {s s' : S} (h : I s') (hm : m s' < m s) : Round I J m s (.inr s') := ⟨(fun y e => by cases e), fun s'' e => by cases e; exact ⟨h, hm⟩⟩
theorem ends_iter {X S : Type} {B : S → Option (X ⊕ S)} {s : S} (I : S → Prop) (J : X → Prop) (m : S → Nat) (hI : I s) (hm : m s < 1180591620717411303424) (h : ∀ s, I s → Lands (B s) (Round I J m s)) : Lands (iterK B bigN s) J := by
  obtain ⟨x, h1, h2⟩ := iter_big (B := B) I J m (fun s hs => by
    obtain ⟨r, e, h3, h4⟩ := h s hs
    cases r with
    | inl x => exact .inl ⟨x, e, h3 x rfl⟩
    | inr s' => exact .inr ⟨s', e, h4 s' rfl⟩) hI hm
  exact ⟨x, h1, h2⟩
theorem at_ends {α : Type} {l : List α} {n : Nat} {x : α} {Q : α → Prop} (h : l[n]? = some x) (hq : Q x) : Lands (atI l (n : Int)) Q := ⟨x, atI_get h, hq⟩
end Go.Fz.Sy
