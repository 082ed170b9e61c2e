/- The engine, part KB: whatever order a region draws, it comes to the same. -/
import Derived.Test.YtecplekkoikmmaaGreatEnK
noncomputable section
namespace Go.En
set_option linter.unusedVariables false
variable {P : Program} {φ : Ren} {H : Hp} {K : Nat → Prop} {w : World}

/-- A step of a region's evaluation in its text's order. -/
structure Stp where
  o : Oper
  ran : Bool
  v : Value
  tmo : List Value
  V : Hp
  wr : Nat → Bool
  H' : Hp
  lo : Nat
  hi : Nat

def Stp.touch (s : Stp) (b : Nat) : Bool := touchOf s.wr s.lo s.hi b

section
variable (st : Nat → Stp) (H0 : Hp) (tm0 : List Value)

/-- The heap, name by name, when the steps of S (of the first m) are done. -/
def spec (S : Nat → Bool) : Nat → Nat → Option Blk
  | 0, b => H0.get b
  | m + 1, b => if S m && (st m).touch b then (st m).H'.get b else spec S m b
/-- The temporaries. -/
def tmS (S : Nat → Bool) : Nat → List Value
  | 0 => tm0
  | m + 1 => if S m then putT (tmS S m) (st m).o.dst (st m).v else tmS S m
end

variable {st : Nat → Stp} {H0 : Hp} {tm0 : List Value}

theorem spec_agree {S T : Nat → Bool} {b : Nat} : ∀ {m : Nat}, (∀ k, k < m → (st k).touch b = true → S k = T k) → spec st H0 S m b = spec st H0 T m b
  | 0, _ => rfl
  | m + 1, h => by
    have ih := spec_agree (S := S) (T := T) (b := b) (m := m) fun k hk => h k (by omega)
    simp only [spec]
    cases ht : (st m).touch b with
    | false => simpa using ih
    | true => rw [h m (by omega) ht, ih]

theorem putT_length (tm : List Value) (d : Option Tmp) (v : Value) : (putT tm d v).length = tm.length := by cases d <;> simp [putT, ls_eq]
theorem tmS_length (S : Nat → Bool) : ∀ m, (tmS st tm0 S m).length = tm0.length
  | 0 => rfl
  | m + 1 => by
    simp only [tmS]
    split
    · rw [putT_length]; exact tmS_length S m
    · exact tmS_length S m
theorem putT_get (tm : List Value) (d : Option Tmp) (v : Value) (s : Nat) : (putT tm d v)[s]? = if d = some s ∧ s < tm.length then some v else tm[s]? := by
  cases d with
  | none => simp [putT]
  | some d =>
    simp only [putT, ls_eq, List.getElem?_set, Option.some.injEq]
    by_cases h : d = s
    · subst h
      by_cases hl : d < tm.length
      · simp [hl]
      · simp [hl]
    · simp [h]
theorem tmS_agree {S T : Nat → Bool} {s : Nat} : ∀ {m : Nat}, (∀ k, k < m → (st k).o.dst = some s → S k = T k) → (tmS st tm0 S m)[s]? = (tmS st tm0 T m)[s]?
  | 0, _ => rfl
  | m + 1, h => by
    have ih := tmS_agree (S := S) (T := T) (s := s) (m := m) fun k hk => h k (by omega)
    simp only [tmS]
    by_cases hd : (st m).o.dst = some s
    · rw [h m (by omega) hd]
      split
      · rw [putT_get, putT_get, tmS_length, tmS_length, ih]
      · exact ih
    · have h1 : ∀ (T : Nat → Bool), (if T m then putT (tmS st tm0 T m) (st m).o.dst (st m).v else tmS st tm0 T m)[s]? = (tmS st tm0 T m)[s]? := by
        intro T
        split
        · rw [putT_get]; simp [hd]
        · rfl
      rw [h1, h1, ih]

/-- What the evaluation in the text's order must have shown. -/
structure DrawOk (P : Program) (r : Option Nat) (ops : Array Oper) (tm0 : List Value) (H0 : Hp) (nx nx' : Nat) (st : Nat → Stp) (A : Nat → Nat → Bool) : Prop where
  hops : ∀ i, i < ops.size → ops[i]? = some (st i).o
  rng : ∀ i, i < ops.size → (st i).lo ≤ (st i).hi
  rngs : ∀ i j, i < j → j < ops.size → (st i).hi ≤ (st j).lo
  rng0 : ∀ i, i < ops.size → nx ≤ (st i).lo ∧ (st i).hi ≤ nx'
  nxs : nx ≤ nx'
  a1 : ∀ i, i < ops.size → ∀ e ∈ (st i).o.after, Region.binds .any e = true → A i e.on = true ∧ e.on < i
  a2 : ∀ i, i < ops.size → ∀ j, A i j = true → ∃ e ∈ (st i).o.after, Region.binds .any e = true ∧ (j = e.on ∨ A e.on j = true)
  a3 : ∀ i j, i < ops.size → A i j = true → j < i
  tlen : ∀ i, i < ops.size → (st i).tmo.length = tm0.length
  tmo : ∀ i, i < ops.size → ∀ (s : Nat) v, (st i).tmo[s]? = some v → v = junk ∨ ((tmS st tm0 (fun k => decide (k < i)) ops.size)[s]? = some v ∧ ∀ k, k < ops.size → k ≠ i → (st k).o.dst = some s → A i k = true ∨ A k i = true)
  dst : ∀ i j (s : Nat), i < ops.size → j < ops.size → i ≠ j → (st i).o.dst = some s → (st j).o.dst ≠ some s
  want : ∀ i, i < ops.size → wantedA ops (st i).tmo (st i).o = some (st i).ran
  ok : ∀ i, i < ops.size → (st i).ran = true → OpOk P r (st i).o (st i).tmo (st i).V (st i).lo (st i).v (st i).H' (st i).hi ∧ allRw (Hp.only (st i).touch (st i).H') = true
  vw : ∀ i, i < ops.size → ∀ b k, (st i).V.get b = some k → ∃ k0, spec st H0 (fun k => decide (k < i)) ops.size b = some k0 ∧ k = seen1 (st i).wr (fun _ => false) b k0
  skip : ∀ i, i < ops.size → (st i).ran = false → (st i).v = undef ∧ ∀ b, (st i).touch b = false
  dis : ∀ i j, i < ops.size → j < ops.size → i ≠ j → A i j = false → A j i = false → ∀ b k, (st i).V.get b = some k → (st j).touch b = false
  wrin : ∀ i, i < ops.size → ∀ b, (st i).wr b = true → ∃ k, (st i).V.get b = some k

theorem getD_false {listed : Array Bool} {i : Nat} (h : listed.getD i true = false) : listed.getD i false = false ∧ i < listed.size := by
  by_cases hl : i < listed.size
  · simp [Array.getD, hl] at h ⊢; exact h
  · simp [Array.getD, hl] at h

theorem touch_disj {r : Option Nat} {ops : Array Oper} {nx nx' : Nat} {A : Nat → Nat → Bool} (D : DrawOk P r ops tm0 H0 nx nx' st A) {i j : Nat} (hi : i < ops.size) (hj : j < ops.size) (hne : i ≠ j) (h1 : A i j = false) (h2 : A j i = false) {b : Nat}
    (hb : (st i).touch b = true) : (st j).touch b = false := by
  cases hjb : (st j).touch b with
  | false => rfl
  | true =>
    exfalso
    have hb' := hb
    have hjb' := hjb
    simp only [Stp.touch, touchOf, Bool.or_eq_true, Bool.and_eq_true, decide_eq_true_eq] at hb' hjb'
    rcases hb' with hw | ⟨hl, hh⟩
    · obtain ⟨k, hk⟩ := D.wrin i hi b hw
      have := D.dis i j hi hj hne h1 h2 b k hk
      rw [hjb] at this; cases this
    · rcases hjb' with hw | ⟨hl2, hh2⟩
      · obtain ⟨k, hk⟩ := D.wrin j hj b hw
        have := D.dis j i hj hi (fun e => hne e.symm) h2 h1 b k hk
        rw [hb] at this; cases this
      · rcases Nat.lt_or_gt_of_ne hne with hlt | hgt
        · have := D.rngs i j hlt hj; omega
        · have := D.rngs j i hgt hi; omega

theorem spec_add {r : Option Nat} {ops : Array Oper} {nx nx' : Nat} {A : Nat → Nat → Bool} (D : DrawOk P r ops tm0 H0 nx nx' st A) {S : Nat → Bool} {i : Nat} (hi : i < ops.size) (hSi : S i = false)
    (hdown : ∀ k, k < ops.size → S k = true → ∀ j, A k j = true → S j = true) (b : Nat) :
    spec st H0 (fun k => S k || k == i) ops.size b = if (st i).touch b then (st i).H'.get b else spec st H0 S ops.size b := by
  have key : ∀ m, m ≤ ops.size → spec st H0 (fun k => S k || k == i) m b = if decide (i < m) && (st i).touch b then (st i).H'.get b else spec st H0 S m b := by
    intro m
    induction m with
    | zero => intro _; simp [spec]
    | succ m ih =>
      intro hm
      have ih := ih (by omega)
      simp only [spec]
      by_cases hmi : m = i
      · subst hmi
        simp only [beq_self_eq_true, Bool.or_true, Bool.true_and, hSi, Bool.false_and, Bool.false_eq_true, if_false, Nat.lt_succ_self, decide_true]
        split
        · rfl
        · rename_i ht; rw [ih]; simp
      · have hbe : (m == i) = false := by simp [hmi]
        simp only [hbe, Bool.or_false]
        by_cases hlt : i < m
        · have hlt' : i < m + 1 := by omega
          simp only [hlt', decide_true, Bool.true_and]
          simp only [hlt, decide_true, Bool.true_and] at ih
          cases hti : (st i).touch b with
          | false => rw [ih]; simp [hti]
          | true =>
            simp only [hti, if_true] at ih ⊢
            have : (S m && (st m).touch b) = false := by
              cases hSm : S m with
              | false => rfl
              | true =>
                have h1 : A i m = false := by
                  cases hA : A i m with
                  | false => rfl
                  | true => have := D.a3 i m hi hA; omega
                have h2 : A m i = false := by
                  cases hA : A m i with
                  | false => rfl
                  | true => have := hdown m (by omega) hSm i hA; rw [hSi] at this; cases this
                simp [touch_disj D hi (by omega) (fun e => hmi e.symm) h1 h2 hti]
            rw [this]; simpa using ih
        · have hlt' : ¬ i < m + 1 := by omega
          simp only [hlt', decide_false, Bool.false_and, Bool.false_eq_true, if_false]
          simp only [hlt, decide_false, Bool.false_and, Bool.false_eq_true, if_false] at ih
          rw [ih]
  have := key ops.size (Nat.le_refl _)
  simpa [hi] using this

theorem tmS_add {r : Option Nat} {ops : Array Oper} {nx nx' : Nat} {A : Nat → Nat → Bool} (D : DrawOk P r ops tm0 H0 nx nx' st A) {S : Nat → Bool} {i : Nat} (hi : i < ops.size) (hSi : S i = false) :
    tmS st tm0 (fun k => S k || k == i) ops.size = putT (tmS st tm0 S ops.size) (st i).o.dst (st i).v := by
  apply List.ext_getElem?
  intro s
  rw [putT_get, tmS_length]
  have key : ∀ m, m ≤ ops.size → (tmS st tm0 (fun k => S k || k == i) m)[s]? = if i < m ∧ (st i).o.dst = some s ∧ s < tm0.length then some (st i).v else (tmS st tm0 S m)[s]? := by
    intro m
    induction m with
    | zero => intro _; simp [tmS]
    | succ m ih =>
      intro hm
      have ih := ih (by omega)
      simp only [tmS]
      by_cases hmi : m = i
      · subst hmi
        simp only [beq_self_eq_true, Bool.or_true, if_true, hSi, Bool.false_eq_true, if_false, Nat.lt_succ_self, true_and]
        rw [putT_get, tmS_length, ih]
        simp
      · have hbe : (m == i) = false := by simp [hmi]
        simp only [hbe, Bool.or_false]
        have hlt : (i < m + 1) ↔ (i < m) := by omega
        simp only [hlt]
        by_cases hSm : S m = true
        · simp only [hSm, if_true]
          rw [putT_get, putT_get, tmS_length, tmS_length, ih]
          by_cases hd : (st m).o.dst = some s
          · have hd' : (st i).o.dst ≠ some s := D.dst m i s (by omega) hi hmi hd
            simp [hd, hd']
          · simp [hd]
        · simp only [hSm]
          exact ih
  have := key ops.size (Nat.le_refl _)
  simpa [hi] using this

theorem draw_main {r : Option Nat} {ops : Array Oper} {nx nx' : Nat} {A : Nat → Nat → Bool} (D : DrawOk P r ops tm0 H0 nx nx' st A) {tmF : List Value} {HF : Hp} (htF : tmF = tmS st tm0 (fun k => decide (k < ops.size)) ops.size)
    (hHF : ∀ b k, HF.get b = some k → spec st H0 (fun k => decide (k < ops.size)) ops.size b = some k) (rc : Option Nat) (φ0 : Ren) (w0 : World) (K : Nat → Prop) (a0 : Act) (Q : Exit → Act → World → Prop)
    (hk : ∀ φ' a' w', Ext φ0 φ' nx nx' → Good φ' HF K w' → TRel φ' tmF a'.tmps → a'.defers = a0.defers → Went K w0 w' → Q .normal a' w') :
    ∀ (fuel t : Nat) (listed : Array Bool) (φ : Ren) (G : Hp) (a : Act) (w : World), listed.size = ops.size → ((List.range ops.size).filter fun k => !listed.getD k false).length ≤ fuel →
      (∀ i, i < ops.size → listed.getD i false = true → ∀ j, A i j = true → listed.getD j false = true) → (∀ b, G.get b = spec st H0 (fun k => listed.getD k false) ops.size b) → Good φ G K w →
      TRel φ (tmS st tm0 (fun k => listed.getD k false) ops.size) a.tmps → (∀ i, i < ops.size → listed.getD i false = false → Fresh φ (st i).lo (st i).hi) → Ext φ0 φ nx nx' → Went K w0 w → a.defers = a0.defers → RRel φ r rc →
      wpOpsIn (fw rc) 0 P ops Q (Region.linearise.go .any ops fuel t listed []) a w := by
  intro fuel
  have final : ∀ (listed : Array Bool) (φ : Ren) (G : Hp) (a : Act) (w : World), (∀ k, k < ops.size → listed.getD k false = true) → (∀ b, G.get b = spec st H0 (fun k => listed.getD k false) ops.size b) → Good φ G K w →
      TRel φ (tmS st tm0 (fun k => listed.getD k false) ops.size) a.tmps → Ext φ0 φ nx nx' → Went K w0 w → a.defers = a0.defers → Q .normal a w := by
    intro listed φ G a w hall hG g ht he hw hd
    refine hk φ a w he (g.sub fun b k hb => ?_) ?_ hd hw
    · rw [hG, spec_agree (T := fun k => decide (k < ops.size)) (fun k hk _ => by simp [hall k hk, hk])]
      exact hHF b k hb
    · have : tmS st tm0 (fun k => listed.getD k false) ops.size = tmF := by
        rw [htF]
        apply List.ext_getElem?
        intro s
        exact tmS_agree fun k hk _ => by simp [hall k hk, hk]
      rw [← this]; exact ht
  induction fuel with
  | zero =>
    intro t listed φ G a w hsz hcnt hdown hG g ht hfr he hw hd hr
    simp only [Region.linearise.go, List.reverse_nil, wpOpsIn]
    refine final listed φ G a w (fun k hk => ?_) hG g ht he hw hd
    have hnil := List.eq_nil_of_length_eq_zero (Nat.le_zero.1 hcnt)
    have := List.filter_eq_nil_iff.1 hnil k (List.mem_range.2 hk)
    simpa using this
  | succ fuel ih =>
    intro t listed φ G a w hsz hcnt hdown hG g ht hfr he hw hd hr
    simp only [Region.linearise.go]
    change wpOpsIn (fw rc) 0 P ops Q (match (Region.ready .any ops listed)[t % (Region.ready .any ops listed).length]? with
      | some i => Region.linearise.go .any ops fuel (t / (Region.ready .any ops listed).length) (listed.setIfInBounds i true) [i]
      | none => [].reverse) a w
    cases hi : (Region.ready .any ops listed)[t % (Region.ready .any ops listed).length]? with
    | none =>
      have hnil : Region.ready .any ops listed = [] := by
        cases hr : Region.ready .any ops listed with
        | nil => rfl
        | cons x xs =>
          rw [hr] at hi
          have hlt : t % (x :: xs).length < (x :: xs).length := Nat.mod_lt _ (by simp)
          simp at hi
          simp at hlt
          omega
      simp only [List.reverse_nil, wpOpsIn]
      refine final listed φ G a w ?_ hG g ht he hw hd
      intro k
      induction k using Nat.strongRecOn with
      | _ k ihk =>
        intro hk
        cases hl : listed.getD k false with
        | true => rfl
        | false =>
          exfalso
          have hmem : k ∈ Region.ready .any ops listed := by
            rw [mem_ready]
            refine ⟨?_, (st k).o, D.hops k hk, fun e he hb => ?_⟩
            · have : k < listed.size := by omega
              simp [Array.getD, this] at hl ⊢; exact hl
            · have := (D.a1 k hk e he hb).2
              exact ihk e.on this (by omega)
          rw [hnil] at hmem; cases hmem
    | some i =>
      simp only []
      rw [linearise_go_acc, List.reverse_singleton, List.singleton_append]
      have hmem := List.mem_of_getElem? hi
      rw [mem_ready] at hmem
      obtain ⟨hli, o, ho, hed⟩ := hmem
      obtain ⟨hSi, hil⟩ := getD_false hli
      have hin : i < ops.size := by omega
      have hoe : o = (st i).o := by have := D.hops i hin; rw [ho] at this; cases this; rfl
      subst hoe
      have hanc : ∀ j, A i j = true → listed.getD j false = true := by
        intro j hj
        obtain ⟨e, he, hb, hor⟩ := D.a2 i hin j hj
        have h1 := hed e he hb
        rcases hor with rfl | hA
        · exact h1
        · exact hdown e.on (by have := (D.a1 i hin e he hb).2; omega) h1 j hA
      have hagree : ∀ k, k < ops.size → (k = i ∨ A i k = true ∨ A k i = true) → listed.getD k false = decide (k < i) := by
        intro k hk hor
        rcases hor with rfl | hA | hA
        · rw [hSi]; simp
        · rw [hanc k hA]; have := D.a3 i k hin hA; simp [this]
        · have h1 := D.a3 k i hk hA
          have : listed.getD k false = false := by
            cases hl : listed.getD k false with
            | false => rfl
            | true => have := hdown k hk hl i hA; rw [hSi] at this; cases this
          rw [this]; simp; omega
      have htmo : TRel φ (st i).tmo a.tmps := by
        refine ⟨by rw [D.tlen i hin, ← ht.1, tmS_length], fun s v hv => ?_⟩
        rcases D.tmo i hin s v hv with hj | ⟨h1, h2⟩
        · exact .inl hj
        · refine ht.2 s v ?_
          rw [← h1]
          refine tmS_agree fun k hk hdk => hagree k hk ?_
          by_cases hki : k = i
          · exact .inl hki
          · exact .inr (h2 k hk hki hdk)
      have hset : ∀ k, (listed.setIfInBounds i true).getD k false = (listed.getD k false || k == i) := by
        intro k
        by_cases hki : k = i
        · subst hki; simp [Array.getD, hil]
        · rw [getD_set_ne false (fun e => hki e.symm)]
          simp [hki]
      have hfun : (fun k => (listed.setIfInBounds i true).getD k false) = (fun k => listed.getD k false || k == i) := funext hset
      have hcnt' : ((List.range ops.size).filter fun k => !(listed.setIfInBounds i true).getD k false).length ≤ fuel := by
        have e1 : ((List.range ops.size).filter fun k => !(listed.setIfInBounds i true).getD k false) = (((List.range ops.size).filter fun k => !listed.getD k false)).filter fun k => !(k == i) := by
          rw [List.filter_filter]
          congr 1
          funext k
          rw [hset]
          cases listed.getD k false <;> cases (k == i) <;> rfl
        have e2 := List.length_filter_lt_length_iff_exists (p := fun k => !(k == i)) (l := (List.range ops.size).filter fun k => !listed.getD k false) |>.2 ⟨i, by rw [List.mem_filter]; exact ⟨List.mem_range.2 hin, by rw [hSi]; rfl⟩, by simp⟩
        rw [e1]; omega
      have hdown' : ∀ k, k < ops.size → (listed.setIfInBounds i true).getD k false = true → ∀ j, A k j = true → (listed.setIfInBounds i true).getD j false = true := by
        intro k hk hl j hj
        rw [hset] at hl ⊢
        simp only [Bool.or_eq_true, beq_iff_eq] at hl ⊢
        rcases hl with hl | rfl
        · exact .inl (hdown k hk hl j hj)
        · exact .inl (hanc j hj)
      have hfresh' : ∀ φ', Ext φ φ' (st i).lo (st i).hi → ∀ k, k < ops.size → (listed.setIfInBounds i true).getD k false = false → Fresh φ' (st k).lo (st k).hi := by
        intro φ' hx k hk hl b hb1 hb2
        rw [hset] at hl
        simp only [Bool.or_eq_false_iff, beq_eq_false_iff_ne] at hl
        have := hfr k hk hl.1 b hb1 hb2
        rw [hx.2 b ?_]
        · exact this
        · rcases Nat.lt_or_gt_of_ne hl.2 with hlt | hgt
          · have := D.rngs k i hlt hin; omega
          · have := D.rngs i k hgt hk; omega
      have hsd : ∀ k, k < ops.size → (fun k => listed.getD k false) k = true → ∀ j, A k j = true → (fun k => listed.getD k false) j = true := hdown
      simp only [wpOpsIn, ho]
      have hwant := wantedA_ok htmo (D.want i hin)
      cases hran : (st i).ran with
      | true =>
        rw [if_pos (by rw [hwant, hran])]
        obtain ⟨hok, hrw⟩ := D.ok i hin hran
        have hV : ∀ b k, (st i).V.get b = some k → ∃ k0, G.get b = some k0 ∧ k = seen1 (st i).wr (fun _ => false) b k0 := by
          intro b k hb
          obtain ⟨k0, h1, h2⟩ := D.vw i hin b k hb
          refine ⟨k0, ?_, h2⟩
          rw [hG, ← h1]
          refine spec_agree fun k' hk' htk => hagree k' hk' ?_
          by_cases hki : k' = i
          · exact .inl hki
          · right
            cases h3 : A i k' with
            | true => exact .inl rfl
            | false =>
              cases h4 : A k' i with
              | true => exact .inr rfl
              | false =>
                have := D.dis i k' hin hk' (fun e => hki e.symm) h3 h4 b k hb
                rw [htk] at this; cases this
        refine view_ok hok hV hrw φ w K a rc _ Q g (hfr i hin hSi) htmo hr fun v' φ' w' x1 x2 x3 x4 => ?_
        refine ih _ _ φ' _ _ w' (by simpa using hsz) hcnt' hdown' (fun b => ?_) x3 ?_ (hfresh' φ' x2) ?_ (hw.trans x4) (by rw [put_defers]; exact hd) (hr.mono x2.1)
        · rw [merge_get, hfun, spec_add D hin hSi hsd]
          show (if (st i).touch b = true then _ else _) = _
          rw [hG]
        · rw [hfun, tmS_add D hin hSi]
          exact putT_rel (ht.mono x2.1) _ x1
        · refine ⟨Ren.le_trans he.1 x2.1, fun b hb => ?_⟩
          have := D.rng0 i hin
          rw [x2.2 b (by omega), he.2 b hb]
      | false =>
        rw [if_neg (by rw [hwant, hran]; simp)]
        refine ⟨about_fw, ?_⟩
        obtain ⟨hv, htch⟩ := D.skip i hin hran
        refine ih _ _ φ G _ w (by simpa using hsz) hcnt' hdown' (fun b => ?_) g ?_ (hfresh' φ (Ext.refl _ _ _)) he hw (by rw [put_defers]; exact hd) hr
        · rw [hfun, spec_add D hin hSi hsd, htch b]
          simp only [Bool.false_eq_true, if_false]
          exact hG b
        · rw [hfun, tmS_add D hin hSi, hv]
          exact putT_rel ht _ (.tuple' (by simp [LRel]))

theorem codeOk_draw {r : Option Nat} {id : Nat} {ops : Array Oper} {nx nx' : Nat} {A : Nat → Nat → Bool} {ds : List Nat} (hm : P.follows .mixedOrders = true) (D : DrawOk P r ops tm0 H0 nx nx' st A) {HF : Hp}
    (hHF : ∀ b k, HF.get b = some k → spec st H0 (fun k => decide (k < ops.size)) ops.size b = some k) :
    CodeOk P r (.region id ops true) tm0 ds H0 nx ⟨.normal, tmS st tm0 (fun k => decide (k < ops.size)) ops.size, ds, HF, nx'⟩ := by
  refine ⟨D.nxs, fun φ w K a rc g hf ht hd hr => wpIn_region_draw fun t => ?_⟩
  rw [hm]
  simp only [Region.schedule, Bool.true_or, if_true, Region.linearise]
  have g0 : ∀ k, (Array.replicate ops.size false).getD k false = false := by intro k; simp [Array.getD]
  have e0 : (fun k => (Array.replicate ops.size false).getD k false) = fun _ => false := funext g0
  have es : ∀ m b, spec st H0 (fun _ => false) m b = H0.get b := by
    intro m b; induction m with
    | zero => rfl
    | succ m ih => simpa [spec] using ih
  have et : ∀ m, tmS st tm0 (fun _ => false) m = tm0 := by
    intro m; induction m with
    | zero => rfl
    | succ m ih => simpa [tmS] using ih
  refine draw_main D rfl hHF rc φ w K a _ (fun φ' a' w' x1 x2 x3 x4 x5 => ⟨rfl, φ', x1, x2, x3, by rw [x4]; exact hd.mono x1.1, x5⟩) ops.size t (Array.replicate ops.size false) φ H0 a w.drew (by simp) ?_ (fun i hi hl => by rw [g0] at hl; cases hl) (fun b => by rw [e0, es]) g.drew (by rw [e0, et]; exact ht) (fun i hi _ b h1 h2 => hf b (by have := D.rng0 i hi; omega) (by have := D.rng0 i hi; show b < nx'; omega)) (Ext.refl _ _ _) (Went.drew K w) rfl hr
  exact Nat.le_trans (List.length_filter_le _ _) (by simp)
end Go.En
