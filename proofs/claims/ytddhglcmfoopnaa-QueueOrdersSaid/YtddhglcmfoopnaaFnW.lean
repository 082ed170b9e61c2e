/- QueueOrders: its first loop, whole. -/
import Derived.Test.YtddhglcmfoopnaaFnV
namespace Go.Proofs.Ytddhglcmfoopnaa.queue
open Go Go.En
set_option linter.unusedVariables false

/-- What the queue, the accepted and the left frames stand at. -/
inductive St where
  | z
  | one (cs : List Value) (off : Nat) (ws : List It)
  | two (cs : List Value) (off : Nat) (ws P : List It)
def St.a : St → Nat → Value
  | .z, _ => nl
  | .one _ _ ws, b => isl b ws
  | .two _ _ ws P, b => isl b (P ++ ws)
def St.p : St → Nat → Value
  | .z, _ => nl
  | .one .., _ => nl
  | .two _ _ _ P, b => isl b P
def St.G (cap : Int) (E : List Sp) (s : St) (q a p : Nat) : Hp := match s with
  | .z => B8 cap E nl
  | .one cs off ws => G1 cap E cs off ws.length ws q a
  | .two cs off ws P => G2 cap E cs off ws.length (P ++ ws) P q a p
def wl (ws : List It) : List Pt := ws.map wholeP
theorem wl_len (ws : List It) : (wl ws).length = ws.length := by simp [wl]
def St.Inv (cap : Int) : St → Nat → Prop
  | .z, _ => checkS cap [] = true
  | .one cs off ws, i => avL cs = true ∧ Holds cs off (wl ws) ∧ checkS cap (wl ws) = true ∧ 0 < ws.length ∧ ws.length ≤ i
  | .two cs off ws P, i => avL cs = true ∧ Holds cs off (wl ws) ∧ checkS cap (wl ws) = true ∧ (P ++ ws).length ≤ i
def σ3 (q a p : Nat) : Nat → Nat := fun b => if b = 5 then q else if b = 6 then a else if b = 7 then p else b
theorem σ3_lt {q a p : Nat} : ∀ b, b < 5 → σ3 q a p b = b := fun b hb => by
  simp only [σ3]
  rw [if_neg (by omega), if_neg (by omega), if_neg (by omega)]
theorem σ3_5 {q a p : Nat} : σ3 q a p 5 = q := rfl
theorem σ3_6 {q a p : Nat} : σ3 q a p 6 = a := rfl
theorem σ3_7 {q a p : Nat} : σ3 q a p 7 = p := rfl
theorem σ3_0 {q a p : Nat} : σ3 q a p 0 = 0 := rfl
theorem σ3_1 {q a p : Nat} : σ3 q a p 1 = 1 := rfl
def Three (q a p : Nat) : Prop := (q = 5 ∧ a = 6 ∧ p = 7) ∨ (q = 16 ∧ a = 19 ∧ p = 7) ∨ (q = 5 ∧ a = 6 ∧ p = 12)
def St.av : St → Prop
  | .z => True
  | .one cs _ _ => avL cs = true
  | .two cs _ _ _ => avL cs = true
theorem St.Inv.av {cap : Int} {s : St} {i : Nat} (h : s.Inv cap i) : s.av := by
  cases s with
  | z => trivial
  | one => exact h.1
  | two => exact h.1
section
variable {cap : Int} {E : List Sp} {n c : Nat}
theorem G_ren {s : St} (h : s.av) (q a p : Nat) : renHp (σ3 q a p) (s.G cap E 5 6 7) = s.G cap E q a p := by
  cases s with
  | z => simp only [St.G, B8, nl, renHp, renBlk, σ3_0, σ3_1, List.map_cons, List.map_nil, renV_avL (ecs_av E), renV]
  | one cs off ws => simp only [St.G, G1, B8, qsl, renHp, renBlk, σ3_0, σ3_1, σ3_5, σ3_6, List.map_cons, List.map_nil, renV_avL (ecs_av E), renV_avL (ics_av ws), renV_avL h, renV]
  | two cs off ws P => simp only [St.G, G2, B8, qsl, renHp, renBlk, σ3_0, σ3_1, σ3_5, σ3_6, σ3_7, List.map_cons, List.map_nil, renV_avL (ecs_av E), renV_avL (ics_av _), renV_avL h, renV]
theorem T_ren (s : St) (i : Int) (q a p : Nat) : (T8 cap (s.a 6) (s.p 7) (esl n c) n i).map (renV (σ3 q a p) 5) = T8 cap (s.a a) (s.p p) (esl n c) n i := by
  cases s <;> rfl
theorem G_below {s : St} (h : s.av) : hpBelow 8 (s.G cap E 5 6 7) = true := by
  have a0 : tidyB 8 (.cells (ecs E) true) = true := small_avL (ecs_av E)
  cases s with
  | z => simp only [St.G, B8, hpBelow, a0]; rfl
  | one cs off ws =>
    have a1 : tidyB 8 (.cells cs false) = true := small_avL h
    have a2 : tidyB 8 (.cells (ics ws) false) = true := small_avL (ics_av ws)
    simp only [St.G, G1, B8, hpBelow, a0, a1, a2]; rfl
  | two cs off ws P =>
    have a1 : tidyB 8 (.cells cs false) = true := small_avL h
    have a2 : tidyB 8 (.cells (ics (P ++ ws)) false) = true := small_avL (ics_av _)
    have a3 : tidyB 8 (.cells (ics P) false) = true := small_avL (ics_av P)
    simp only [St.G, G2, B8, hpBelow, a0, a1, a2, a3]; rfl
theorem st_step {s s' : St} {i j : Int} {q a p n2 : Nat} {R : Res} (hav : s'.av) (h3 : Three q a p) (hn : n2 ≤ 20) (hR : R.nx = 20)
    (h1 : CodeOk Try.prog none (lp Try.prog 6 8) (T8 cap (s.a 6) (s.p 7) (esl n c) n i) [] (s.G cap E 5 6 7) 8 ⟨.normal, T8 cap (s'.a a) (s'.p p) (esl n c) n j, [], s'.G cap E q a p, n2⟩)
    (h2 : LoopL Try.prog 5 none (lp Try.prog 6 8) (T8 cap (s'.a 6) (s'.p 7) (esl n c) n j) [] (s'.G cap E 5 6 7) 8 R) :
    LoopL Try.prog 5 none (lp Try.prog 6 8) (T8 cap (s.a 6) (s.p 7) (esl n c) n i) [] (s.G cap E 5 6 7) 8 R := by
  have e := G_ren (cap := cap) (E := E) hav q a p
  refine loopL_step (σ3 q a p) (n1 := n2) ?_ h2 (by omega) σ3_lt ?_ (G_below hav)
  · rw [e, T_ren]; exact h1
  · rw [e]
    rcases h3 with ⟨rfl, rfl, rfl⟩ | ⟨rfl, rfl, rfl⟩ | ⟨rfl, rfl, rfl⟩ <;> cases s' <;> (show _ = true; kernel_rfl)
def TX (a p : Value) : List Value := [J, J, J, J, .bool false, pt 1, J, a, p] ++ List.replicate 147 J
theorem st_out (s : St) : CodeOk Try.prog none (lp Try.prog 6 8) (T8 cap (s.a 6) (s.p 7) (esl n c) n n) [] (s.G cap E 5 6 7) 8 ⟨.exit 0, TX (s.a 6) (s.p 7), [], s.G cap E 5 6 7, 8⟩ := by
  have hd : decide ((n : Int) < n) = false := decide_eq_false (by omega)
  cases s with
  | z => exact code_k [1, 0] (hs := [(38, .val (.bool (decide ((n : Int) < n))) (.bool false))]) (ch := []) (evk 50) special ⟨congrArg Value.bool hd, trivial⟩ trivial (by kernel_rfl)
  | one => exact code_k [5, 6, 1, 0] (hs := [(38, .val (.bool (decide ((n : Int) < n))) (.bool false))]) (ch := []) (evk 50) special ⟨congrArg Value.bool hd, trivial⟩ trivial (by kernel_rfl)
  | two => exact code_k [5, 6, 7, 1, 0] (hs := [(38, .val (.bool (decide ((n : Int) < n))) (.bool false))]) (ch := []) (evk 50) special ⟨congrArg Value.bool hd, trivial⟩ trivial (by kernel_rfl)
theorem wl_snoc (ws : List It) (x : It) : wl (ws ++ [x]) = wl ws ++ [wholeP x] := by simp [wl]
theorem st_go {s : St} {i : Nat} {x : Sp} (hcap : 0 ≤ cap ∧ cap ≤ 65535) (h : s.Inv cap i) (hi40 : i < 40) (hi : E[i]? = some x) (hlt : i < n) :
    ∃ (s' : St) (q a p n2 : Nat), s'.Inv cap (i + 1) ∧ Three q a p ∧ n2 ≤ 20 ∧ CodeOk Try.prog none (lp Try.prog 6 8) (T8 cap (s.a 6) (s.p 7) (esl n c) n i) [] (s.G cap E 5 6 7) 8 ⟨.normal, T8 cap (s'.a a) (s'.p p) (esl n c) n (IntKind.i64.wrap (i + 1)), [], s'.G cap E q a p, n2⟩ := by
  cases s with
  | z =>
    have ck : checkS cap [] = true := h
    cases hk : (Int.tmod x.k 3 == 2) with
    | true => exact ⟨.z, 5, 6, 7, _, ck, .inl ⟨rfl, rfl, rfl⟩, by omega, r0_pop hi hlt hk ck⟩
    | false =>
      cases h2 : itemOk x.it with
      | false => exact ⟨.z, 5, 6, 7, _, ck, .inl ⟨rfl, rfl, rfl⟩, by omega, r0_bad hi hlt hk ck h2⟩
      | true =>
        cases h3 : overS cap [] x.it with
        | true => exact ⟨.z, 5, 6, 7, _, ck, .inl ⟨rfl, rfl, rfl⟩, by omega, r0_no hi hlt hk ck hcap h2 h3⟩
        | false => exact ⟨.one (pcs [wholeP x.it]) 0 [x.it], 16, 19, 7, _, ⟨avL_pcs _, holds_0 _, check_push (m := []) (by simp) ck h2 h3, by simp, by simp⟩, .inr (.inl ⟨rfl, rfl, rfl⟩), by omega, r0_yes hi hlt hk ck hcap h2 h3⟩
  | one cs off ws =>
    obtain ⟨hs, hh, ck, h0, hw⟩ := h
    have hl : (wl ws).length = ws.length := wl_len ws
    cases hk : (Int.tmod x.k 3 == 2) with
    | true =>
      cases ws with
      | nil => simp at h0
      | cons y m =>
        have r := r1_pop (A := y :: m) (P := []) (n := n) (c := c) hi hlt (y := y) (m := wl m) hk hs (by simp [wl] at hw ⊢; omega) hh ck (by simp)
        refine ⟨.two cs (off + 7) m [y], 5, 6, 12, 13, ⟨hs, holds_tl hh, check_pop (q := wholeP y) (by simp [wl] at hw ⊢; omega) ck, by simp at hw ⊢; omega⟩, .inr (.inr ⟨rfl, rfl, rfl⟩), by omega, ?_⟩
        simpa [St.a, St.p, St.G, wl] using r
    | false =>
      cases h2 : itemOk x.it with
      | false =>
        have r := r1_bad (A := ws) (n := n) (c := c) hi hlt hk hs (by omega) hh ck h2
        rw [hl] at r
        exact ⟨.one cs off ws, 5, 6, 7, _, ⟨hs, hh, ck, h0, by omega⟩, .inl ⟨rfl, rfl, rfl⟩, by omega, r⟩
      | true =>
        cases h3 : overS cap (wl ws) x.it with
        | true =>
          have r := r1_no (A := ws) (n := n) (c := c) hi hlt hk hs (by omega) hh ck hcap h2 h3
          rw [hl] at r
          exact ⟨.one cs off ws, 5, 6, 7, _, ⟨hs, hh, ck, h0, by omega⟩, .inl ⟨rfl, rfl, rfl⟩, by omega, r⟩
        | false =>
          have r := r1_yes (A := ws) (n := n) (c := c) hi hlt hk hs (by omega) (by omega) hh ck (by omega) hcap h2 h3
          rw [hl] at r
          refine ⟨.one (pcs (wl ws) ++ pcs [wholeP x.it]) 0 (ws ++ [x.it]), 16, 19, 7, 20, ⟨avL_app (avL_pcs _) (avL_pcs _), ?_, ?_, by simp, by simp; omega⟩, .inr (.inl ⟨rfl, rfl, rfl⟩), by omega, ?_⟩
          · rw [wl_snoc]; exact holds_snoc _ _
          · rw [wl_snoc]; exact check_push (by omega) ck h2 h3
          · simpa [St.a, St.p, St.G] using r
  | two cs off ws P =>
    obtain ⟨hs, hh, ck, hw⟩ := h
    have hl : (wl ws).length = ws.length := wl_len ws
    have hw2 : P.length + ws.length ≤ i := by simpa using hw
    cases hk : (Int.tmod x.k 3 == 2) with
    | true =>
      cases ws with
      | nil =>
        have r := r2_none (A := P ++ []) (P := P) (n := n) (c := c) (off := off) hi hlt hk hs ck (by simp)
        exact ⟨.two cs off [] P, 5, 6, 7, _, ⟨hs, hh, ck, by omega⟩, .inl ⟨rfl, rfl, rfl⟩, by omega, r⟩
      | cons y m =>
        have r := r2_pop (A := P ++ (y :: m)) (P := P) (n := n) (c := c) hi hlt (y := y) (m := wl m) hk hs (by simp [wl] at hw2 ⊢; omega) hh ck (by omega)
        refine ⟨.two cs (off + 7) m (P ++ [y]), 5, 6, 12, 13, ⟨hs, holds_tl hh, check_pop (q := wholeP y) (by simp [wl] at hw2 ⊢; omega) ck, by simp at hw2 ⊢; omega⟩, .inr (.inr ⟨rfl, rfl, rfl⟩), by omega, ?_⟩
        simpa [St.a, St.p, St.G, wl] using r
    | false =>
      cases h2 : itemOk x.it with
      | false =>
        have r := r2_bad (A := P ++ ws) (P := P) (n := n) (c := c) hi hlt hk hs (by omega) hh ck h2
        rw [hl] at r
        exact ⟨.two cs off ws P, 5, 6, 7, _, ⟨hs, hh, ck, by omega⟩, .inl ⟨rfl, rfl, rfl⟩, by omega, r⟩
      | true =>
        cases h3 : overS cap (wl ws) x.it with
        | true =>
          have r := r2_no (A := P ++ ws) (P := P) (n := n) (c := c) hi hlt hk hs (by omega) hh ck hcap h2 h3
          rw [hl] at r
          exact ⟨.two cs off ws P, 5, 6, 7, _, ⟨hs, hh, ck, by omega⟩, .inl ⟨rfl, rfl, rfl⟩, by omega, r⟩
        | false =>
          have hA : (P ++ ws).length ≤ 900 := by omega
          cases ws with
          | nil =>
            have r := r2_yesE (A := P ++ []) (P := P) (n := n) (c := c) (off := off) hi hlt hk hs ck hA hcap h2 h3
            refine ⟨.two (pcs [wholeP x.it]) 0 [x.it] P, 16, 19, 7, 20, ⟨avL_pcs _, holds_0 _, check_push (m := []) (by simp) ck h2 h3, by simp at hw2 ⊢; omega⟩, .inr (.inl ⟨rfl, rfl, rfl⟩), by omega, ?_⟩
            simpa [St.a, St.p, St.G] using r
          | cons y m =>
            have r := r2_yes (A := P ++ (y :: m)) (P := P) (n := n) (c := c) hi hlt hk hs (by simp [wl]) (by omega) hh ck hA hcap h2 h3
            rw [hl] at r
            refine ⟨.two (pcs (wl (y :: m)) ++ pcs [wholeP x.it]) 0 ((y :: m) ++ [x.it]) P, 16, 19, 7, 20, ⟨avL_app (avL_pcs _) (avL_pcs _), ?_, ?_, by simp at hw2 ⊢; omega⟩, .inr (.inl ⟨rfl, rfl, rfl⟩), by omega, ?_⟩
            · rw [wl_snoc]; exact holds_snoc _ _
            · rw [wl_snoc]; exact check_push (by omega) ck h2 h3
            · simpa [St.a, St.p, St.G] using r
theorem st_loop (hcap : 0 ≤ cap ∧ cap ≤ 65535) (hn : n ≤ E.length) (hn40 : n ≤ 40) : ∀ (k i : Nat) (s : St), i + k = n → s.Inv cap i →
    ∃ s' : St, s'.Inv cap n ∧ LoopL Try.prog 5 none (lp Try.prog 6 8) (T8 cap (s.a 6) (s.p 7) (esl n c) n i) [] (s.G cap E 5 6 7) 8 ⟨.exit 0, TX (s'.a 6) (s'.p 7), [], s'.G cap E 5 6 7, 20⟩
  | 0, i, s, h, hinv => by
    have : i = n := by omega
    subst this
    exact ⟨s, hinv, loopL_out (st_out s) (by show Exit.exit 0 ≠ Exit.normal; simp) (by omega) (M := 20) (by show 8 ≤ 20; omega)⟩
  | k + 1, i, s, h, hinv => by
    have hlt : i < E.length := by omega
    obtain ⟨s1, q, a, p, n2, v1, v2, v3, v4⟩ := st_go (n := n) (c := c) hcap hinv (by omega) (List.getElem?_eq_getElem hlt) (by omega)
    rw [show (i : Int) + 1 = ((i + 1 : Nat) : Int) by push_cast; rfl, wrap_nat (by omega)] at v4
    obtain ⟨s', w1, w2⟩ := st_loop hcap hn hn40 k (i + 1) s1 (by omega) v1
    exact ⟨s', w1, st_step v1.av v2 v3 rfl v4 w2⟩
termination_by k => k
end
end Go.Proofs.Ytddhglcmfoopnaa.queue
