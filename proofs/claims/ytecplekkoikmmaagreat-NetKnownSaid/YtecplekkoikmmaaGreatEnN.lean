/- The engine, part N: calls that are known already (each evaluated by itself, on the part of the heap that it can reach), and the evaluator that looks them up. -/
import Derived.Test.YtecplekkoikmmaaGreatEnM
noncomputable section
namespace Go.En
set_option linter.unusedVariables false
variable {P : Program} {φ : Ren} {H : Hp} {K : Nat → Prop} {w : World}

/-- A call evaluated on a view of the heap G that it may only read: what it does to G. -/
theorem call_view {f : FuncId} {args : List Value} {V H' G : Hp} {lo hi : Nat} {v : Value} (h : CallOk P f args V lo v H' hi)
    (hV : ∀ b k, V.get b = some k → ∃ k0, G.get b = some k0 ∧ k = seen1 (fun _ => false) (fun _ => false) b k0) (hrw : allRw (Hp.only (touchOf (fun _ => false) lo hi) H') = true) :
    CallOk P f args G lo v (merge (touchOf (fun _ => false) lo hi) H' G) hi := by
  refine ⟨h.1, fun φ w K us g hf hl => ?_⟩
  let K2 : Nat → Prop := fun c => K c ∨ ∃ b k L, G.get b = some k ∧ φ b = some L ∧ L.blk = c
  have hV' : ∀ b k, V.get b = some k → k.rw = true → False := by
    intro b k hb hk
    obtain ⟨k0, h0, rfl⟩ := hV b k hb
    simp only [seen1, Bool.false_eq_true, if_false] at hk
    split at hk <;> simp [Blk.rw] at hk
  have g2 : Good φ V K2 w := by
    refine ⟨fun b k hb => ?_, fun b c k k' L L' hb hc hne hkr => (hV' b k hb hkr).elim, fun b k L hb hkr => (hV' b k hb hkr).elim, fun c hc => ?_⟩
    · obtain ⟨k0, h0, rfl⟩ := hV b k hb
      obtain ⟨L, hL, hbr⟩ := g.rel b k0 h0
      refine ⟨L, hL, ?_⟩
      simp only [seen1, Bool.false_eq_true, if_false]
      split
      · obtain ⟨arr, el, fr, h1, h2, h3⟩ := hbr
        exact ⟨arr, el, fr, h1, h2, fun h => by cases h⟩
      · exact hbr.hid_of
    · rcases hc with hK | ⟨b, k, L, hb, hL, he⟩
      · exact g.kin c hK
      · have := (g.at hb hL).lt; omega
  refine Calls.mono (h.2 φ w K2 us g2 hf hl) ?_
  rintro e w' ⟨v', φ', rfl, x1, x2, x3, x4⟩
  refine ⟨v', φ', rfl, x1, x2, ?_, ⟨x4.os, x4.tape, x4.output, x4.size, fun c hc => x4.kept c (.inl hc)⟩⟩
  have htr : ∀ b k, (merge (touchOf (fun _ => false) lo hi) H' G).get b = some k → touchOf (fun _ => false) lo hi b = true → H'.get b = some k ∧ k.rw = true := by
    intro b k hb ht
    rw [merge_get, ht] at hb
    refine ⟨hb, allRw_get (b := b) hrw ?_⟩
    rw [Hp.get_only, ht]; exact hb
  have hun : ∀ b k, (merge (touchOf (fun _ => false) lo hi) H' G).get b = some k → touchOf (fun _ => false) lo hi b = false → G.get b = some k := by
    intro b k hb ht
    rw [merge_get, ht] at hb
    simpa using hb
  refine ⟨fun b k hb => ?_, fun b c k k' L L' hb hc hne hkr hL hL' => ?_, fun b k L hb hkr hL hK => ?_, fun c hc => Nat.lt_of_lt_of_le (g.kin c hc) x4.size⟩
  · cases ht : touchOf (fun _ => false) lo hi b with
    | true => exact x3.rel b k (htr b k hb ht).1
    | false =>
      have hG := hun b k hb ht
      obtain ⟨L, hL, hbr⟩ := g.rel b k hG
      exact ⟨L, x2.1 _ _ hL, (hbr.congr (x4.kept L.blk (.inr ⟨b, k, L, hG, hL, rfl⟩))).mono x2.1⟩
  · cases htb : touchOf (fun _ => false) lo hi b with
    | true =>
      obtain ⟨hb', hbr⟩ := htr b k hb htb
      cases htc : touchOf (fun _ => false) lo hi c with
      | true => exact x3.sep b c k k' L L' hb' (htr c k' hc htc).1 hne hbr hL hL'
      | false =>
        have hG := hun c k' hc htc
        obtain ⟨M, hM, _⟩ := g.rel c k' hG
        have := x2.1 _ _ hM
        rw [hL'] at this; cases this
        exact fun e => x3.prot b k L hb' hbr hL (.inr ⟨c, k', L', hG, hM, e.symm⟩)
    | false =>
      have hG := hun b k hb htb
      obtain ⟨M, hM, _⟩ := g.rel b k hG
      have hM' := x2.1 _ _ hM
      rw [hL] at hM'; cases hM'
      cases htc : touchOf (fun _ => false) lo hi c with
      | true =>
        obtain ⟨hc', hcr⟩ := htr c k' hc htc
        exact fun e => x3.prot c k' L' hc' hcr hL' (.inr ⟨b, k, L, hG, hM, e⟩)
      | false =>
        have hGc := hun c k' hc htc
        obtain ⟨M2, hM2, _⟩ := g.rel c k' hGc
        have := x2.1 _ _ hM2
        rw [hL'] at this; cases this
        exact g.sep b c k k' L L' hG hGc hne hkr hM hM2
  · cases htb : touchOf (fun _ => false) lo hi b with
    | true =>
      obtain ⟨hb', hbr⟩ := htr b k hb htb
      exact x3.prot b k L hb' hbr hL (.inl hK)
    | false =>
      have hG := hun b k hb htb
      obtain ⟨M, hM, _⟩ := g.rel b k hG
      have hM' := x2.1 _ _ hM
      rw [hL] at hM'; cases hM'
      exact g.prot b k L hG hkr hM hK

/-- A call that is known. -/
structure Memo where
  f : FuncId
  nx : Nat
  args : List Value
  V : List (Nat × List Value)
  v : Value
  new : List (Nat × List Value)
  nx' : Nat

def roHp : List (Nat × List Value) → Hp
  | [] => []
  | (b, cs) :: r => (b, .cells cs true) :: roHp r
def rwHp : List (Nat × List Value) → Hp
  | [] => []
  | (b, cs) :: r => (b, .cells cs false) :: rwHp r

/-- What a known call is worth. -/
def Memo.Ok (P : Program) (m : Memo) : Prop :=
  (∃ fn, P.funcs[m.f]? = some fn ∧ fn.body.isSome = true) ∧ CallOk P m.f m.args (roHp m.V) m.nx m.v (rwHp m.new ++ roHp m.V) m.nx'

/-- The heap holds what the call looked at. -/
def holdsV (H : Hp) : List (Nat × List Value) → Bool
  | [] => true
  | (b, cs) :: r => (match H.get b with
    | some (.cells ds _) => leqBy (veq 4) cs ds
    | _ => false) && holdsV H r
theorem holdsV_get {H : Hp} {b : Nat} {k : Blk} : ∀ {V : List (Nat × List Value)}, holdsV H V = true → (roHp V).get b = some k → ∃ k0, H.get b = some k0 ∧ k = seen1 (fun _ => false) (fun _ => false) b k0
  | [], _, h => by simp [roHp, Hp.get_nil] at h
  | (c, cs) :: r, hh, h => by
    simp only [holdsV, Bool.and_eq_true] at hh
    by_cases hc : c = b
    · subst hc
      simp [roHp, Hp.get_cons] at h
      subst h
      have h1 := hh.1
      split at h1
      · rename_i ds ro hg
        refine ⟨_, hg, ?_⟩
        rw [leqBy_eq (veq_eq 4) h1]
        simp [seen1]
      · cases h1
    · simp [roHp, Hp.get_cons, hc] at h
      exact holdsV_get hh.2 h

def inNew (lo hi : Nat) : List (Nat × List Value) → Bool
  | [] => true
  | (b, _) :: r => decide (lo ≤ b) && decide (b < hi) && inNew lo hi r
def below (lo : Nat) : List (Nat × List Value) → Bool
  | [] => true
  | (b, _) :: r => decide (b < lo) && below lo r
theorem rwHp_get {lo hi b : Nat} {k : Blk} : ∀ {N : List (Nat × List Value)}, inNew lo hi N = true → (rwHp N).get b = some k → lo ≤ b ∧ b < hi ∧ k.rw = true
  | [], _, h => by simp [rwHp, Hp.get_nil] at h
  | (c, cs) :: r, hn, h => by
    simp only [inNew, Bool.and_eq_true, decide_eq_true_eq] at hn
    by_cases hc : c = b
    · subst hc
      simp [rwHp, Hp.get_cons] at h
      subst h
      exact ⟨hn.1.1, hn.1.2, rfl⟩
    · simp [rwHp, Hp.get_cons, hc] at h
      exact rwHp_get hn.2 h

/-- Looking a call up. -/
def useMemo (m : Memo) (f : FuncId) (args : List Value) (H : Hp) (nx : Nat) : Option (Value × Hp × Nat) :=
  if m.f == f && m.nx == nx && leqBy (veq 5) m.args args && holdsV H m.V && inNew m.nx m.nx' m.new && below m.nx m.V then some (m.v, rwHp m.new ++ H, m.nx') else none

/-- A known call, on a heap that holds what it looked at. -/
theorem memo_use {m : Memo} (hm : m.Ok P) {H : Hp} (hV : ∀ b k, (roHp m.V).get b = some k → ∃ k0, H.get b = some k0 ∧ k = seen1 (fun _ => false) (fun _ => false) b k0)
    (h5 : inNew m.nx m.nx' m.new = true) (h6 : below m.nx m.V = true) : CallOk P m.f m.args H m.nx m.v (rwHp m.new ++ H) m.nx' := by
  have hbel : ∀ {V : List (Nat × List Value)} {b : Nat} {k : Blk}, below m.nx V = true → (roHp V).get b = some k → b < m.nx := by
    intro V
    induction V with
    | nil => intro b k _ h; simp [roHp, Hp.get_nil] at h
    | cons x V ih =>
      intro b k hb h
      obtain ⟨c, cs⟩ := x
      simp only [below, Bool.and_eq_true, decide_eq_true_eq] at hb
      by_cases hc : c = b
      · subst hc; exact hb.1
      · simp [roHp, Hp.get_cons, hc] at h; exact ih hb.2 h
  have hrw : allRw (Hp.only (touchOf (fun _ => false) m.nx m.nx') (rwHp m.new ++ roHp m.V)) = true := by
    have key : ∀ (N : List (Nat × List Value)), allRw (Hp.only (touchOf (fun _ => false) m.nx m.nx') (rwHp N)) = true := by
      intro N
      induction N with
      | nil => rfl
      | cons x N ih =>
        obtain ⟨c, cs⟩ := x
        simp only [rwHp, Hp.only]
        split
        · simpa [allRw, Blk.rw] using ih
        · exact ih
    have key2 : ∀ (V : List (Nat × List Value)), below m.nx V = true → Hp.only (touchOf (fun _ => false) m.nx m.nx') (roHp V) = [] := by
      intro V
      induction V with
      | nil => intro _; rfl
      | cons x V ih =>
        intro hb
        obtain ⟨c, cs⟩ := x
        simp only [below, Bool.and_eq_true, decide_eq_true_eq] at hb
        have : touchOf (fun _ => false) m.nx m.nx' c = false := by simp [touchOf]; omega
        simp only [roHp, Hp.only, this, Bool.false_eq_true, if_false]
        exact ih hb.2
    have app : ∀ (A B : Hp) (p : Nat → Bool), Hp.only p (A ++ B) = Hp.only p A ++ Hp.only p B := by
      intro A B p
      induction A with
      | nil => rfl
      | cons x A ih =>
        obtain ⟨c, k⟩ := x
        simp only [List.cons_append, Hp.only]
        split
        · rw [ih]; rfl
        · exact ih
    rw [app, key2 _ h6, List.append_nil]
    exact key _
  have hcv := call_view hm.2 hV hrw
  refine ⟨hcv.1, fun φ w K us g hf hl => Calls.mono (hcv.2 φ w K us g hf hl) ?_⟩
  rintro e w' ⟨v', φ', rfl, x1, x2, x3, x4⟩
  refine ⟨v', φ', rfl, x1, x2, x3.sub fun b k hb => ?_, x4⟩
  rw [merge_get]
  rw [Hp.get_append] at hb
  cases hn : (rwHp m.new).get b with
  | some k' =>
    rw [hn] at hb
    cases hb
    have := rwHp_get h5 hn
    have ht : touchOf (fun _ => false) m.nx m.nx' b = true := by simp [touchOf]; omega
    rw [ht]
    simp only [if_true]
    rw [Hp.get_append, hn]
  | none =>
    rw [hn] at hb
    have hb : H.get b = some k := hb
    have ht : touchOf (fun _ => false) m.nx m.nx' b = false := by
      simp only [touchOf, Bool.false_or, Bool.and_eq_false_iff, decide_eq_false_iff_not]
      obtain ⟨L, hL, _⟩ := g.rel b k hb
      rcases Nat.lt_or_ge b m.nx with h | h
      · exact .inl (by omega)
      · rcases Nat.lt_or_ge b m.nx' with h' | h'
        · have := hf b h h'; rw [hL] at this; cases this
        · exact .inr (by omega)
    rw [ht]
    simpa using hb

theorem useMemo_ok {m : Memo} (hm : m.Ok P) {f : FuncId} {args : List Value} {H : Hp} {nx : Nat} {v : Value} {H' : Hp} {nx' : Nat} (h : useMemo m f args H nx = some (v, H', nx')) :
    (∃ fn, P.funcs[f]? = some fn ∧ fn.body.isSome = true) ∧ CallOk P f args H nx v H' nx' := by
  unfold useMemo at h
  split at h
  · rename_i hc
    cases h
    simp only [Bool.and_eq_true, beq_iff_eq] at hc
    obtain ⟨⟨⟨⟨⟨h1, h2⟩, h3⟩, h4⟩, h5⟩, h6⟩ := hc
    subst h1; subst h2
    have h3 := leqBy_eq (veq_eq 5) h3
    subst h3
    exact ⟨hm.1, memo_use hm (fun b k hb => holdsV_get h4 hb) h5 h6⟩
  · cases h

def lookM : List Memo → FuncId → List Value → Hp → Nat → Option (Value × Hp × Nat)
  | [], _, _, _, _ => none
  | m :: ms, f, args, H, nx => if m.nx == nx && m.f == f then (match useMemo m f args H nx with
    | some r => some r
    | none => lookM ms f args H nx) else lookM ms f args H nx

/-- The evaluator with known calls. -/
def memoEv (ms : List Memo) (E : Ev) : Ev where
  call := fun f args H nx => match lookM ms f args H nx with
    | some r => some r
    | none => E.call f args H nx
  code := E.code
  loop := E.loop
  scp := E.scp

theorem lookM_ok : ∀ {ms : List Memo}, (∀ m ∈ ms, m.Ok P) → ∀ {f : FuncId} {args : List Value} {H : Hp} {nx : Nat} {v : Value} {H' : Hp} {nx' : Nat}, lookM ms f args H nx = some (v, H', nx') →
    (∃ fn, P.funcs[f]? = some fn ∧ fn.body.isSome = true) ∧ CallOk P f args H nx v H' nx'
  | [], _, _, _, _, _, _, _, _, h => by cases h
  | m :: ms, hm, f, args, H, nx, v, H', nx', h => by
    simp only [lookM] at h
    split at h
    · split at h
      · rename_i r hr
        cases h
        exact useMemo_ok (hm m (by simp)) hr
      · exact lookM_ok (fun m hm' => hm m (by simp [hm'])) h
    · exact lookM_ok (fun m hm' => hm m (by simp [hm'])) h

theorem memoEv_ok {ms : List Memo} {E : Ev} (hms : ∀ m ∈ ms, m.Ok P) (hE : E.Ok P) : (memoEv ms E).Ok P := by
  refine ⟨fun {f args H nx v H' nx'} h => ?_, fun {f args H nx v H' nx'} h => ?_, fun h => hE.code h, fun h => hE.loop h, fun h => hE.scp h⟩
  · simp only [memoEv] at h
    split at h
    · rename_i r hr; cases h; exact (lookM_ok hms hr).2
    · exact hE.call h
  · simp only [memoEv] at h
    split at h
    · rename_i r hr; cases h; exact (lookM_ok hms hr).1
    · exact hE.named h

/-- The evaluator with known calls, at every depth. -/
def evM (P : Program) (ms : List Memo) : Nat → Ev
  | 0 => ⟨fun _ _ _ _ => none, fun _ _ _ _ _ _ => none, fun _ _ _ _ _ _ => none, fun _ _ _ _ _ _ => none⟩
  | n + 1 => memoEv ms (evStep P (evM P ms n))
theorem evM_ok (hs : NoSpecial P) {ms : List Memo} (hms : ∀ m ∈ ms, m.Ok P) : ∀ n, (evM P ms n).Ok P
  | 0 => ⟨(fun h => by cases h), (fun h => by cases h), (fun h => by cases h), (fun h => by cases h), (fun h => by cases h)⟩
  | n + 1 => memoEv_ok hms (evStep_ok (evM_ok hs hms n) hs)

/-- The heap H' has these blocks, to be turned (ro = false) or to be read. -/
def hasAll (ro : Bool) (H : Hp) : List (Nat × List Value) → Bool
  | [] => true
  | (b, cs) :: r => (match H.get b with
    | some (.cells ds r') => (r' == ro) && leqBy (veq 4) cs ds
    | _ => false) && hasAll ro H r
theorem hasAll_ro {b : Nat} {k : Blk} : ∀ {V : List (Nat × List Value)}, hasAll true H V = true → (roHp V).get b = some k → H.get b = some k
  | [], _, h => by simp [roHp, Hp.get_nil] at h
  | (c, cs) :: r, hh, h => by
    simp only [hasAll, Bool.and_eq_true] at hh
    by_cases hc : c = b
    · subst hc
      simp [roHp, Hp.get_cons] at h
      subst h
      have h1 := hh.1
      split at h1
      · rename_i ds ro hg
        simp only [Bool.and_eq_true, beq_iff_eq] at h1
        rw [leqBy_eq (veq_eq 4) h1.2, hg, h1.1]
      · cases h1
    · simp [roHp, Hp.get_cons, hc] at h
      exact hasAll_ro hh.2 h
theorem hasAll_rw {b : Nat} {k : Blk} : ∀ {V : List (Nat × List Value)}, hasAll false H V = true → (rwHp V).get b = some k → H.get b = some k
  | [], _, h => by simp [rwHp, Hp.get_nil] at h
  | (c, cs) :: r, hh, h => by
    simp only [hasAll, Bool.and_eq_true] at hh
    by_cases hc : c = b
    · subst hc
      simp [rwHp, Hp.get_cons] at h
      subst h
      have h1 := hh.1
      split at h1
      · rename_i ds ro hg
        simp only [Bool.and_eq_true, beq_iff_eq] at h1
        rw [leqBy_eq (veq_eq 4) h1.2, hg, h1.1]
      · cases h1
    · simp [rwHp, Hp.get_cons, hc] at h
      exact hasAll_rw hh.2 h

/-- The evaluator comes to what the entry says. -/
def memoSays (E : Ev) (m : Memo) : Bool :=
  match E.call m.f m.args (roHp m.V) m.nx with
  | some (v, H', nx') => veq 5 m.v v && nx' == m.nx' && hasAll false H' m.new && hasAll true H' m.V
  | none => false
theorem memo_of {E : Ev} {m : Memo} (hE : E.Ok P) (h : memoSays E m = true) : m.Ok P := by
  unfold memoSays at h
  split at h
  · rename_i v H' nx' he
    simp only [Bool.and_eq_true, beq_iff_eq] at h
    obtain ⟨⟨⟨h1, h2⟩, h3⟩, h4⟩ := h
    have h1 := veq_eq 5 _ _ h1
    subst h1; subst h2
    refine ⟨hE.named he, ?_⟩
    have hc := hE.call he
    refine ⟨hc.1, fun φ w K us g hf hl => Calls.mono (hc.2 φ w K us g hf hl) ?_⟩
    rintro e w' ⟨v', φ', rfl, x1, x2, x3, x4⟩
    refine ⟨v', φ', rfl, x1, x2, x3.sub fun b k hb => ?_, x4⟩
    rw [Hp.get_append] at hb
    cases hn : (rwHp m.new).get b with
    | some k' =>
      rw [hn] at hb
      cases hb
      exact hasAll_rw h3 hn
    | none =>
      rw [hn] at hb
      exact hasAll_ro h4 hb
  · cases h

def saysTrueM (P : Program) (ms : List Memo) (n : Nat) (f : FuncId) : Bool :=
  match (evM P ms n).call f [] [] 0 with
  | some (.bool true, _, _) => true
  | _ => false
theorem closed_ofM {n : Nat} {f : FuncId} {ms : List Memo} (hs : NoSpecial P) (hms : ∀ m ∈ ms, m.Ok P) (h : saysTrueM P ms n f = true) : ∃ H' nx', CallOk P f [] [] 0 (.bool true) H' nx' := by
  unfold saysTrueM at h
  split at h
  · rename_i H' nx' he; exact ⟨H', nx', (evM_ok hs hms n).call he⟩
  · cases h

/-- More known calls, each evaluated with those before it. -/
theorem memos_cons {n : Nat} {m : Memo} {ms : List Memo} (hs : NoSpecial P) (hms : ∀ m ∈ ms, m.Ok P) (h : memoSays (evM P ms n) m = true) : ∀ x ∈ m :: ms, x.Ok P := by
  intro x hx
  rcases List.mem_cons.1 hx with rfl | hx
  · exact memo_of (evM_ok hs hms n) h
  · exact hms x hx
end Go.En
