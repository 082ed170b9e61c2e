/- The engine, part E: append, copy, make, structs built and taken apart. -/
import Derived.Test.YtecplekkoikmmaaGreatEnD
import Derived.Laws.AppendOwn
noncomputable section
namespace Go.En
set_option linter.unusedVariables false
variable {P : Program} {φ : Ren} {H : Hp} {K : Nat → Prop} {w : World}

/-- The first m elements of a slice, as cells. -/
def srcCells (H : Hp) (size : Nat) : Value → Option (Nat × List Value)
  | .slice none n _ => if n = 0 then some (0, []) else none
  | .slice (some ⟨b, o, none⟩) n _ =>
    if n = 0 then some (0, []) else
    match H.get b with
    | some (.cells cs _) => if o + n * size ≤ cs.length then some (n, (cs.drop o).take (n * size)) else none
    | _ => none
  | _ => none

theorem srcCells_ok (g : Good φ H K w) {size : Nat} {x x' : Value} {m : Nat} {news : List Value} (h : srcCells H size x = some (m, news)) (hx : VRel φ x x') :
    ∃ a' c' us, x' = .slice a' m c' ∧ us.length = m * size ∧ LRel φ news us ∧ (m = 0 → us = []) ∧ (a' = none → m = 0) ∧ (∀ a, a' = some a → ∀ (j : Nat) v, us[j]? = some v → w.cell? (a.add j) = some v) := by
  unfold srcCells at h
  split at h
  · split at h
    · rename_i hn
      cases h
      cases hx
      exact ⟨none, _, [], by rw [hn], by simp, trivial, fun _ => rfl, fun _ => rfl, fun a ha => by cases ha⟩
    · cases h
  · rename_i b o n c
    split at h
    · rename_i hn
      cases h
      subst hn
      cases hx with
      | sl _ _ _ _ L hL hc => exact ⟨_, _, [], rfl, by simp, trivial, fun _ => rfl, fun _ => rfl, fun a ha j v hv => by simp at hv⟩
      | slO _ _ _ _ c' L hL hc hn hl => exact ⟨_, _, [], rfl, by simp, trivial, fun _ => rfl, fun _ => rfl, fun a ha j v hv => by simp at hv⟩
      | slE _ _ _ a' L hL hc => exact ⟨_, _, [], rfl, by simp, trivial, fun _ => rfl, fun _ => rfl, fun a ha j v hv => by simp at hv⟩
    · rename_i hn
      split at h
      · rename_i cs ro hb
        split at h
        · rename_i hfit
          simp only [Option.some.injEq, Prod.mk.injEq] at h
          obtain ⟨rfl, rfl⟩ := h
          have key : ∀ (L : Loc), φ b = some L → ∃ us : List Value, us.length = n * size ∧ LRel φ ((cs.drop o).take (n * size)) us ∧ (n = 0 → us = []) ∧ ((some ⟨L.blk, L.off + o, none⟩ : Option Addr) = none → n = 0) ∧
              (∀ a : Addr, some ⟨L.blk, L.off + o, none⟩ = some a → ∀ (j : Nat) v, us[j]? = some v → w.cell? (a.add j) = some v) := by
            intro L hL
            obtain ⟨us, h1, h2, h3⟩ := g.read hb hL o (n * size) hfit
            refine ⟨us, h1, h3, fun h0 => absurd h0 hn, (fun h0 => by cases h0), fun a ha j v hv => ?_⟩
            cases ha
            rw [Addr.add_none]; exact h2 j v hv
          cases hx with
          | sl _ _ _ _ L hL hc =>
            obtain ⟨us, h1, h2, h3, h4, h5⟩ := key L hL
            exact ⟨_, _, us, rfl, h1, h2, h3, h4, h5⟩
          | slO _ _ _ _ c' L hL hc hn hl =>
            obtain ⟨us, h1, h2, h3, h4, h5⟩ := key L hL
            exact ⟨_, _, us, rfl, h1, h2, h3, h4, h5⟩
          | slE => exact absurd rfl hn
        · cases h
      · cases h
  · cases h

/-- Appending a slice to a slice. -/
def doAppend (P : Program) (H : Hp) (nx : Nat) (t : TypeId) (s x : Value) : Option (Value × Hp × Nat) :=
  match undF P t with
  | some (.slice e) =>
    match infoF P e with
    | some i =>
      match i.zero, srcCells H i.size x with
      | some z, some (m, news) =>
        if z.cells.size = i.size ∧ 0 < i.size then
          match s with
          | .slice none n c =>
            if n = 0 ∧ c = 0 then
              (if m = 0 then some (s, H, nx + 1) else if m ≤ maxLen ∧ m * i.bytes ≤ 140737488355328 then some (.slice (some ⟨nx, 0, none⟩) m (openCap + i.size), (nx, .cells news false) :: H, nx + 1) else none)
            else none
          | .slice (some ⟨b, o, none⟩) n c =>
            if m = 0 then (if n ≤ c then some (s, H, nx + 1) else none) else
            match srcCells H i.size s with
            | some (_, olds) =>
              if n + m ≤ maxLen ∧ (n + m) * i.bytes ≤ 140737488355328 ∧ (openCap ≤ c → c - openCap = i.size) then
                (if c < n + m then some (.slice (some ⟨nx, 0, none⟩) (n + m) (openCap + i.size), (nx, .cells (olds ++ news) false) :: H, nx + 1)
                 else if openCap ≤ c then
                   match H.get b with
                   | some (.cells _ false) => if oneL news then some (.slice (some ⟨nx, 0, none⟩) (n + m) (openCap + i.size), (nx, .cells (olds ++ news) false) :: H.del b, nx + 1) else none
                   | _ => none
                 else match H.get b with
                   | some (.cells cs false) => if oneL news ∧ o + (n + m) * i.size ≤ cs.length then some (.slice (some ⟨b, o, none⟩) (n + m) c, H.set b (.cells (spl cs (o + n * i.size) news) false), nx + 1) else none
                   | _ => none)
              else none
            | none => none
          | _ => none
        else none
      | _, _ => none
    | none => none
  | _ => none

theorem run_append_zero {t ty e : TypeId} {i : TypeInfo} (ht : P.underlying t = some (.slice e)) (hi : P.info? e = some i) (b : Option Addr) (n c : Nat) (hn : n ≤ c) (a : Option Addr) (c' : Nat) (w : World) :
    (Builtin.append_ #[t, t] ty #[.slice b n c, .slice a 0 c']).run P w = .ok (.slice b n c) w := by
  cases a <;> cases b <;> simp [Builtin.append_, run_underlying ht, sizeOf, typeInfo, hi, Builtin.lenOf, hn, Builtin.firstCells, loadCells, loadCellsFrom, storeCells]

/-- In place. -/
theorem run_append_room' {t ty e : TypeId} {i : TypeInfo} (ht : P.underlying t = some (.slice e)) (hi : P.info? e = some i)
    (b o sLen sCap : Nat) (a : Addr) (m c : Nat) (news : List Value) (hl : news.length = m * i.size) (hnews : ∀ (j : Nat) u, news[j]? = some u → w.cell? (a.add j) = some u)
    (hroom : sLen + m ≤ sCap) {w' : World} (hst : (storeCells ⟨b, o + sLen * i.size, none⟩ news).run P w = .ok () w') :
    (Builtin.append_ #[t, t] ty #[.slice (some ⟨b, o, none⟩) sLen sCap, .slice (some a) m c]).run P w = .ok (.slice (some ⟨b, o, none⟩) (sLen + m) sCap) w' := by
  have hf := run_firstCells_some (P := P) w i.size m a m c news hl hnews
  simp [Builtin.append_, run_underlying ht, sizeOf, typeInfo, hi, Builtin.lenOf, hroom, hf, Addr.add_none, hst]

/-- A new row, of unknown capacity. -/
theorem grown_ok (g : Good φ H K w) {n : Nat} (hn : φ n = none) {cs us : List Value} (hr : LRel φ cs us) (e : TypeId) (z : Array Value) (len cap size : Nat) (hz : z.size = size) (hl : us.length = len * size) (hc : len ≤ cap) :
    ∃ φ', Ext φ φ' n (n + 1) ∧ Good φ' ((n, .cells cs false) :: H) K (w.drew.alloc (.cells (us.toArray ++ Builtin.zeroCells z (cap - len)) e)) ∧
      VRel φ' (.slice (some ⟨n, 0, none⟩) len (openCap + size)) (.slice (some ⟨w.heap.size, 0, none⟩) len cap) ∧ Went K w (w.drew.alloc (.cells (us.toArray ++ Builtin.zeroCells z (cap - len)) e)) := by
  have e1 : (us.toArray ++ Builtin.zeroCells z (cap - len)) = (us ++ (Builtin.zeroCells z (cap - len)).toList).toArray := by
    apply Array.ext'; simp
  have hsz : (Builtin.zeroCells z (cap - len)).toList.length = (cap - len) * size := by rw [Array.length_toList, size_zeroCells, hz]
  have htot : us.length + (Builtin.zeroCells z (cap - len)).toList.length = cap * size := by
    rw [hl, hsz, ← Nat.add_mul]; congr 1; omega
  have hg := g.drew.make hn hr e (cap * size) (Builtin.zeroCells z (cap - len)).toList (by omega)
  rw [e1]
  refine ⟨_, Ext.put hn _, hg, ?_, (Went.drew K w).trans (Went.alloc g.drew _)⟩
  have := VRel.slO (φ := φ.put n ⟨w.heap.size, 0, cap * size⟩) n 0 len (openCap + size) cap ⟨w.heap.size, 0, cap * size⟩ (Ren.put_same _ _ _) (by omega) hc (by simp)
  simpa using this

/-- In place, beyond an open slice's end: the old name is gone. -/
theorem inplace_ok (P : Program) (g : Good φ H K w) {nx : Nat} (hfr : φ nx = none) {b o n m c' size : Nat} {bcs olds os news us : List Value} {L : Loc} (hb : H.get b = some (.cells bcs false)) (hL : φ b = some L)
    (hl : L.off + o + c' * size = L.lim) (hroom : n + m ≤ c') (hol : os.length = n * size) (hor : LRel φ olds os) (hoc : ∀ (j : Nat) v, os[j]? = some v → w.cell? ⟨L.blk, L.off + o + j, none⟩ = some v)
    (hul : us.length = m * size) (hur : LRel φ news us) (h1 : oneL news = true) :
    ∃ w' φ', (storeCells ⟨L.blk, L.off + o + n * size, none⟩ us).run P w = .ok () w' ∧ VRel φ' (.slice (some ⟨nx, 0, none⟩) (n + m) (openCap + size)) (.slice (some ⟨L.blk, L.off + o, none⟩) (n + m) c') ∧
      Ext φ φ' nx (nx + 1) ∧ Good φ' ((nx, .cells (olds ++ news) false) :: H.del b) K w' ∧ Went K w w' := by
  obtain ⟨arr, el, fr, h2, h3, h4⟩ := g.at hb hL
  obtain ⟨rfl, hlim⟩ := h4 rfl
  have hfit : (n + m) * size ≤ c' * size := Nat.mul_le_mul_right _ hroom
  have hnm : (n + m) * size = n * size + m * size := Nat.add_mul _ _ _
  have hst := run_storeCells_at P L.blk (L.off + o + n * size) el us 0 arr w h2 (by omega) (oneL_mem h1 hur)
  have hle := Ren.put_le hfr ⟨L.blk, L.off + o, L.lim⟩
  have hoth : ∀ d k M, H.get d = some k → d ≠ b → φ d = some M → M.blk ≠ L.blk := fun d k M hd hne hM e => g.sep b d _ k L M hb hd (fun e => hne e.symm) rfl hL hM e.symm
  have getd : ∀ d, Hp.get ((nx, Blk.cells (olds ++ news) false) :: H.del b) d = if d = nx then some (.cells (olds ++ news) false) else if d = b then none else H.get d := by
    intro d
    by_cases h : d = nx
    · subst h; simp [Hp.get_cons]
    · have : ¬ nx = d := fun e => h e.symm
      simp [Hp.get_cons, h, this, Hp.get_del]
  refine ⟨_, φ.put nx ⟨L.blk, L.off + o, L.lim⟩, hst, ?_, Ext.put hfr _, ?_, ?_⟩
  · have := VRel.slO (φ := φ.put nx ⟨L.blk, L.off + o, L.lim⟩) nx 0 (n + m) (openCap + size) c' ⟨L.blk, L.off + o, L.lim⟩ (Ren.put_same _ _ _) (by omega) hroom (by simp; omega)
    simpa using this
  · refine ⟨fun d k hd => ?_, fun d d' k k' M M' hd hd' hne hk hM hM' => ?_, fun d k M hd hk hM => ?_, fun c hc => by rw [setRow_size]; exact g.kin c hc⟩
    · rw [getd] at hd
      by_cases hdn : d = nx
      · subst hdn
        simp at hd
        subst hd
        refine ⟨_, Ren.put_same _ _ _, _, el, (0, 0), setRow_heap w L.blk arr _ el _ h2, fun j v hv => ?_, fun _ => ⟨rfl, ?_⟩⟩
        · change ∃ v', (spl arr.toList (L.off + o + n * size) us).toArray[L.off + o + j]? = some v' ∧ _
          rw [List.getElem?_toArray, spl_get _ _ _ (by simp; omega)]
          have hll := hor.length
          by_cases hj : j < n * size
          · rw [List.getElem?_append_left (by omega)] at hv
            obtain ⟨u, hu1, hu2⟩ := hor.get hv
            have := hoc j u hu1
            simp only [World.cell?, h2] at this
            have h7 : L.off + o + j < L.off + o + n * size := by omega
            simp only [h7, if_true]
            exact ⟨u, by simpa using this, hu2.mono hle⟩
          · rw [List.getElem?_append_right (by omega)] at hv
            obtain ⟨u, hu1, hu2⟩ := hur.get hv
            have hj2 := (List.getElem?_eq_some_iff.1 hu1).1
            have h7 : ¬ L.off + o + j < L.off + o + n * size := by omega
            have h8 : L.off + o + j < L.off + o + n * size + us.length := by omega
            have h9 : L.off + o + j - (L.off + o + n * size) = j - olds.length := by omega
            simp only [h7, h8, h9, if_true, if_false]
            exact ⟨u, hu1, hu2.mono hle⟩
        · simp only [List.size_toArray, List.length_append, List.length_take, List.length_drop, Array.length_toList]; omega
      · simp [hdn] at hd
        obtain ⟨hdb, hd⟩ := hd
        obtain ⟨M, hM, hr⟩ := g.rel d k hd
        refine ⟨M, by rw [Ren.put_other _ _ hdn]; exact hM, (hr.congr ?_).mono hle⟩
        exact setRow_other w L.blk _ _ (hoth d k M hd hdb hM)
    · rw [getd] at hd hd'
      by_cases hdn : d = nx
      · subst hdn
        have hdn' : ¬ d' = d := fun e => hne e.symm
        simp [hdn'] at hd'
        rw [Ren.put_same] at hM; cases hM
        rw [Ren.put_other _ _ hdn'] at hM'
        exact fun e => hoth d' k' M' hd'.2 hd'.1 hM' e.symm
      · simp [hdn] at hd
        rw [Ren.put_other _ _ hdn] at hM
        by_cases hdn' : d' = nx
        · subst hdn'
          rw [Ren.put_same] at hM'; cases hM'
          exact hoth d k M hd.2 hd.1 hM
        · simp [hdn'] at hd'
          rw [Ren.put_other _ _ hdn'] at hM'
          exact g.sep d d' k k' M M' hd.2 hd'.2 hne hk hM hM'
    · rw [getd] at hd
      by_cases hdn : d = nx
      · subst hdn
        rw [Ren.put_same] at hM; cases hM
        exact g.prot b _ L hb rfl hL
      · simp [hdn] at hd
        rw [Ren.put_other _ _ hdn] at hM
        exact g.prot d k M hd.2 hk hM
  · exact ⟨rfl, rfl, rfl, Nat.le_of_eq (setRow_size w L.blk _).symm, fun c hc => setRow_other w L.blk _ c (fun e => g.prot b _ L hb rfl hL (e ▸ hc))⟩

theorem sub_del {n b : Nat} {k : Blk} : ∀ d x, Hp.get ((n, k) :: H.del b) d = some x → Hp.get ((n, k) :: H) d = some x := by
  intro d x hd
  simp only [Hp.get_cons] at hd ⊢
  split at hd
  · rename_i he; simp only [he]; exact hd
  · rename_i he
    simp only [he]
    rw [Hp.get_del] at hd
    split at hd
    · cases hd
    · exact hd

set_option maxHeartbeats 1000000 in
theorem doAppend_ok (g : Good φ H K w) {nx : Nat} (hfr : φ nx = none) {t ty : TypeId} {s x s' x' v : Value} {H' : Hp} {nx' : Nat} (h : doAppend P H nx t s x = some (v, H', nx')) (hs : VRel φ s s') (hx : VRel φ x x') :
    ∃ v' w' φ', (Builtin.append_ #[t, t] ty #[s', x']).run P w = .ok v' w' ∧ VRel φ' v v' ∧ Ext φ φ' nx nx' ∧ Good φ' H' K w' ∧ Went K w w' ∧ nx ≤ nx' := by
  unfold doAppend at h
  simp only [infoF_eq, undF_eq] at h
  split at h
  case h_2 => cases h
  rename_i e hu
  split at h
  case h_2 => cases h
  rename_i i hi
  split at h
  case h_2 => cases h
  rename_i z m news hz hsrc
  split at h
  case isFalse => cases h
  rename_i hzs
  obtain ⟨hzs, hpos⟩ := hzs
  obtain ⟨ax, cx, us, rfl, hul, hur, hu0, hax, hcell⟩ := srcCells_ok g hsrc hx
  split at h
  · -- nil
    rename_i n c
    split at h
    case isFalse => cases h
    rename_i hnc
    obtain ⟨rfl, rfl⟩ := hnc
    cases hs
    split at h
    · rename_i hm
      cases h
      subst hm
      exact ⟨_, w, φ, run_append_zero hu hi _ _ _ (Nat.le_refl _) _ _ w, .slN _ _, Ext.refl _ _ _, g, Went.refl _ _, Nat.le_succ _⟩
    · rename_i hm
      split at h
      case isFalse => cases h
      rename_i hb
      cases h
      cases ax with
      | none => exact absurd (hax rfl) hm
      | some a =>
        have hrun := run_append_nil (P := P) w t ty e i z hu hi hz a m cx us hul (hcell a rfl) (by omega) (by have := hb.1; simp only [maxLen] at this; omega) (by omega)
        have hge := grownCap_ge w m 0 e
        obtain ⟨φ', h1, h2, h3, h4⟩ := grown_ok g hfr hur e z.cells m (grownCap w m 0 e) i.size hzs hul hge
        exact ⟨_, _, φ', hrun, h3, h1, h2, h4, Nat.le_succ _⟩
  · rename_i b o n c
    split at h
    · rename_i hm
      split at h
      case isFalse => cases h
      rename_i hnc
      cases h
      subst hm
      refine ⟨s', w, φ, ?_, hs, Ext.refl _ _ _, g, Went.refl _ _, Nat.le_succ _⟩
      cases hs with
      | sl _ _ _ _ L hL hc => exact run_append_zero hu hi _ _ _ hnc _ _ w
      | slO _ _ _ _ c' L hL hc hn hl => exact run_append_zero hu hi _ _ _ hn _ _ w
      | slE _ _ _ a' L hL hc => exact run_append_zero hu hi _ _ _ (Nat.le_refl _) _ _ w
    · rename_i hm
      split at h
      case h_2 => cases h
      rename_i m0 olds hso
      split at h
      case isFalse => cases h
      rename_i hbd
      obtain ⟨h63, hby, hes⟩ := hbd
      obtain ⟨as, cs', os, hse, hol, hor, ho0, has, hoc⟩ := srcCells_ok g hso hs
      have h63' : ((n + m : Nat) : Int) ≤ 9223372036854775807 := by simp only [maxLen] at h63; omega
      have hm0 : m0 = n := by cases hs <;> (cases hse; rfl)
      subst hm0
      cases ax with
      | none => exact absurd (hax rfl) hm
      | some a =>
        -- the growing way
        have grows : ∀ (bs : Addr) (cc : Nat), s' = .slice (some bs) m0 cc → cc < m0 + m → as = some bs → ∃ v' w' φ', (Builtin.append_ #[t, t] ty #[s', .slice (some a) m cx]).run P w = .ok v' w' ∧
            VRel φ' (.slice (some ⟨nx, 0, none⟩) (m0 + m) (openCap + i.size)) v' ∧ Ext φ φ' nx (nx + 1) ∧ Good φ' ((nx, .cells (olds ++ news) false) :: H) K w' ∧ Went K w w' := by
          intro bs cc hs' hcc hbs
          subst hs'
          have hrun := run_append_grow (P := P) w t ty e i z hu hi hz bs m0 cc os hol (hoc bs hbs) a m cx us hul (hcell a rfl) hcc h63' (growslice_fits hcc hby)
          have hge := grownCap_ge w (m0 + m) cc e
          obtain ⟨φ', h1, h2, h3, h4⟩ := grown_ok g hfr (hor.append hur) e z.cells (m0 + m) (grownCap w (m0 + m) cc e) i.size hzs (by rw [List.length_append, hol, hul, Nat.add_mul]) hge
          rw [show (os ++ us).toArray = os.toArray ++ us.toArray by apply Array.ext'; simp] at h2 h4
          exact ⟨_, _, φ', hrun, h3, h1, h2, h4⟩
        split at h
        · rename_i hcn
          cases h
          have hcl : c < openCap := by simp only [maxLen, openCap] at *; omega
          cases hs with
          | sl _ _ _ _ L hL hc =>
            obtain ⟨v', w', φ', h1, h2, h3, h4, h5⟩ := grows _ _ rfl hcn (by cases hse; rfl)
            exact ⟨v', w', φ', h1, h2, h3, h4, h5, Nat.le_succ _⟩
          | slO _ _ _ _ c' L hL hc hn hl => omega
          | slE _ _ _ a' L hL hc => omega
        · rename_i hcn
          split at h
          · rename_i hop
            split at h
            case h_2 => cases h
            rename_i bcs hb
            split at h
            case isFalse => cases h
            rename_i h1
            cases h
            cases hs with
            | sl _ _ _ _ L hL hc => omega
            | slE _ _ _ a' L hL hc =>
              obtain ⟨v', w', φ', h1, h2, h3, h4, h5⟩ := grows _ _ rfl (by omega) (by cases hse; rfl)
              exact ⟨v', w', φ', h1, h2, h3, h4.sub sub_del, h5, Nat.le_succ _⟩
            | slO _ _ _ _ c' L hL hc hn hl =>
              obtain rfl : as = some ⟨L.blk, L.off + o, none⟩ := by cases hse; rfl
              have hes' := hes hop
              rw [hes'] at hl
              by_cases hroom : m0 + m ≤ c'
              · obtain ⟨w', φ', h2, h3, h4, h5, h6⟩ := inplace_ok P g hfr hb hL hl hroom hol hor (fun j v hv => by have := hoc _ rfl j v hv; rwa [Addr.add_none] at this) hul hur h1
                exact ⟨_, w', φ', run_append_room' (P := P) (ty := ty) (w := w) hu hi L.blk (L.off + o) m0 c' a m cx us hul (hcell a rfl) hroom h2, h3, h4, h5, h6, Nat.le_succ _⟩
              · obtain ⟨v', w', φ', h1, h2, h3, h4, h5⟩ := grows _ _ rfl (by omega) rfl
                exact ⟨v', w', φ', h1, h2, h3, h4.sub sub_del, h5, Nat.le_succ _⟩
          · rename_i hop
            split at h
            case h_2 => cases h
            rename_i bcs hb
            split at h
            case isFalse => cases h
            rename_i hfit
            cases h
            cases hs with
            | slO _ _ _ _ c' L hL hc hn hl => omega
            | slE _ _ _ a' L hL hc => omega
            | sl _ _ _ _ L hL hc =>
              have hll := hur.length
              have hnm : (m0 + m) * i.size = m0 * i.size + m * i.size := Nat.add_mul _ _ _
              have hne : news ≠ [] := fun e => by
                rw [e] at hll
                have : 0 < m * i.size := Nat.mul_pos (by omega) hpos
                simp only [List.length_nil] at hll; omega
              obtain ⟨w', hst, hg, hw⟩ := g.write P hb hL (o + m0 * i.size) (by omega) hfit.1 hur hne
              rw [← Nat.add_assoc] at hst
              have hrun := run_append_room' (P := P) (ty := ty) (w := w) hu hi L.blk (L.off + o) m0 c a m cx us hul (hcell a rfl) (by omega) hst
              exact ⟨_, w', φ, hrun, .sl b o _ _ L hL hc, Ext.refl _ _ _, hg, hw, Nat.le_succ _⟩
  · cases h
end Go.En
