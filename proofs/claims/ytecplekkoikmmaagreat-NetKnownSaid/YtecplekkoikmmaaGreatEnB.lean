/- The engine, part B: what reading, making and writing blocks does to the relation. -/
import Derived.Test.YtecplekkoikmmaaGreatEnA
import Derived.Laws.CopyRow
noncomputable section
namespace Go.En
set_option linter.unusedVariables false

theorem VRel.one {φ : Ren} {v v' : Value} (h : VRel φ v v') : v'.oneCell' = v.oneCell' := by cases h <;> rfl

def oneL : List Value → Bool
  | [] => true
  | v :: r => v.oneCell' && oneL r
theorem oneL_mem {φ : Ren} : ∀ {vs us : List Value}, oneL vs = true → LRel φ vs us → ∀ u ∈ us, u.oneCell' = true
  | [], [], _, _, _, h => by simp at h
  | v :: vs, u :: us, h, hr, x, hx => by
    simp [oneL] at h
    rcases List.mem_cons.1 hx with rfl | hx
    · rw [hr.1.one]; exact h.1
    · exact oneL_mem h.2 hr.2 x hx
  | [], _ :: _, _, h, _, _ => h.elim
  | _ :: _, [], _, h, _, _ => h.elim

def Hp.set : Hp → Nat → Blk → Hp
  | [], _, _ => []
  | (b, k) :: r, n, x => if b == n then (b, x) :: r else (b, k) :: Hp.set r n x
def Hp.del : Hp → Nat → Hp
  | [], _ => []
  | (b, k) :: r, n => if b == n then Hp.del r n else (b, k) :: Hp.del r n

theorem Hp.get_set (n : Nat) (x : Blk) (m : Nat) : ∀ H : Hp, (H.set n x).get m = if m = n then (H.get n).map (fun _ => x) else H.get m
  | [] => by simp [Hp.set, Hp.get_nil]
  | (b, k) :: r => by
    have ih := Hp.get_set n x m r
    by_cases hb : b = n
    · subst hb
      by_cases hm : m = b
      · subst hm; simp [Hp.set, Hp.get_cons]
      · have : ¬ b = m := fun h => hm h.symm
        simp [Hp.set, Hp.get_cons, hm, this]
    · by_cases hm : m = n
      · subst hm; simp [Hp.set, Hp.get_cons, hb, ih]
      · by_cases hbm : b = m
        · simp [Hp.set, Hp.get_cons, hm, hbm]
        · simp [Hp.set, Hp.get_cons, hb, hm, hbm, ih]
theorem Hp.get_del (n m : Nat) : ∀ H : Hp, (H.del n).get m = if m = n then none else H.get m
  | [] => by simp [Hp.del, Hp.get_nil]
  | (b, k) :: r => by
    have ih := Hp.get_del n m r
    by_cases hb : b = n
    · subst hb
      by_cases hm : m = b
      · subst hm; simp [Hp.del, ih]
      · have : ¬ b = m := fun h => hm h.symm
        simp [Hp.del, Hp.get_cons, hm, this, ih]
    · by_cases hm : m = n
      · subst hm; simp [Hp.del, Hp.get_cons, hb, ih]
      · by_cases hbm : b = m
        · simp [Hp.del, Hp.get_cons, hm, hbm]
        · simp [Hp.del, Hp.get_cons, hb, hm, hbm, ih]

theorem BRel.congr {φ : Ren} {w w' : World} {L : Loc} {k : Blk} (h : w'.heap[L.blk]? = w.heap[L.blk]?) (hb : BRel φ w L k) : BRel φ w' L k := by
  cases k <;> simpa only [BRel, h] using hb
theorem BRel.mono {φ φ' : Ren} (hl : φ.le φ') {w : World} {L : Loc} {k : Blk} (hb : BRel φ w L k) : BRel φ' w L k := by
  cases k with
  | cells cs ro =>
    obtain ⟨arr, el, fr, h1, h2, h3⟩ := hb
    exact ⟨arr, el, fr, h1, fun j v hv => let ⟨v', a, b⟩ := h2 j v hv; ⟨v', a, b.mono hl⟩, h3⟩
  | loop l =>
    obtain ⟨l', h1, h2, h3, h4, h5, h6, h7, D, h8, h9⟩ := hb
    exact ⟨l', h1, h2, h3, h4.mono hl, h5, h6, h7, D, hl _ _ h8, h9⟩
  | defd => exact hb
  | hid => exact hb
  | mp es cl =>
    obtain ⟨es', h1, h2, h3⟩ := hb
    exact ⟨es', h1, h2.mono hl, h3⟩
  | iter m cl =>
    obtain ⟨M, h1, h0, h2⟩ := hb
    exact ⟨M, hl _ _ h1, h0, h2⟩
theorem BRel.lt {φ : Ren} {w : World} {L : Loc} {k : Blk} (hb : BRel φ w L k) : L.blk < w.heap.size := by
  have : ∃ o, w.heap[L.blk]? = some o := by
    cases k with
    | cells cs ro => obtain ⟨arr, el, fr, h1, _⟩ := hb; exact ⟨_, h1⟩
    | loop l => obtain ⟨l', h1, _⟩ := hb; exact ⟨_, h1⟩
    | defd => exact ⟨_, hb⟩
    | hid => exact hb
    | mp es cl => obtain ⟨es', h1, _⟩ := hb; exact ⟨_, h1⟩
    | iter m cl => obtain ⟨M, h1, _, h2⟩ := hb; exact ⟨_, h2⟩
  obtain ⟨o, ho⟩ := this
  exact (Array.getElem?_eq_some_iff.1 ho).1

def Ren.put (φ : Ren) (n : Nat) (L : Loc) : Ren := fun b => if b = n then some L else φ b
theorem Ren.put_same (φ : Ren) (n : Nat) (L : Loc) : φ.put n L n = some L := by simp [Ren.put]
theorem Ren.put_other (φ : Ren) {n b : Nat} (L : Loc) (h : b ≠ n) : φ.put n L b = φ b := by simp [Ren.put, h]
theorem Ren.put_le {φ : Ren} {n : Nat} (h : φ n = none) (L : Loc) : φ.le (φ.put n L) := fun b M hb => by
  by_cases hn : b = n
  · subst hn; rw [h] at hb; cases hb
  · rw [Ren.put_other φ L hn]; exact hb
theorem Ext.put {φ : Ren} {n : Nat} (h : φ n = none) (L : Loc) : Ext φ (φ.put n L) n (n + 1) :=
  ⟨Ren.put_le h L, fun b hb => Ren.put_other φ L (by omega)⟩

section
variable {φ : Ren} {H : Hp} {K : Nat → Prop} {w w' : World}

theorem Good.named (g : Good φ H K w) {b : Nat} {k : Blk} (h : H.get b = some k) : ∃ L, φ b = some L := let ⟨L, h1, _⟩ := g.rel b k h; ⟨L, h1⟩
theorem Good.absent (g : Good φ H K w) {n : Nat} (h : φ n = none) : H.get n = none := by
  cases hk : H.get n with
  | none => rfl
  | some k => obtain ⟨L, hL, _⟩ := g.rel n k hk; rw [h] at hL; cases hL

theorem Good.at (g : Good φ H K w) {b : Nat} {k : Blk} {L : Loc} (h : H.get b = some k) (hL : φ b = some L) : BRel φ w L k := by
  obtain ⟨L', h1, h2⟩ := g.rel b k h
  rw [hL] at h1; cases h1; exact h2

theorem Good.sub (g : Good φ H K w) {H' : Hp} (h : ∀ b k, H'.get b = some k → H.get b = some k) : Good φ H' K w :=
  ⟨fun b k hb => g.rel b k (h b k hb), fun b c k k' L L' hb hc => g.sep b c k k' L L' (h b k hb) (h c k' hc), fun b k L hb => g.prot b k L (h b k hb), g.kin⟩

theorem Good.upd (g : Good φ H K w) {b : Nat} {k k' : Blk} {L : Loc} (hb : H.get b = some k) (hrw : k.rw = true) (hL : φ b = some L)
    (hw : ∀ c, c ≠ L.blk → w'.heap[c]? = w.heap[c]?) (hsz : w'.heap.size = w.heap.size) (hk' : BRel φ w' L k') : Good φ (H.set b k') K w' := by
  refine ⟨fun c x hx => ?_, fun c d x y M N hc hd hne hx hM hN => ?_, fun c x M hc hx hM => ?_, fun c hc => by rw [hsz]; exact g.kin c hc⟩
  · rw [Hp.get_set] at hx
    by_cases h : c = b
    · subst h; simp [hb] at hx; subst hx; exact ⟨L, hL, hk'⟩
    · simp [h] at hx
      obtain ⟨M, hM, hr⟩ := g.rel c x hx
      exact ⟨M, hM, hr.congr (hw _ (fun e => g.sep b c k x L M hb hx (fun e => h e.symm) hrw hL hM e.symm))⟩
  · rw [Hp.get_set] at hc hd
    by_cases h : c = b
    · subst h
      have h' : ¬ d = c := fun e => hne e.symm
      simp [h'] at hd
      exact g.sep c d k y M N hb hd hne hrw hM hN
    · simp [h] at hc
      by_cases h' : d = b
      · subst h'
        exact fun e => g.sep d c k x N M hb hc (fun e => h e.symm) hrw hN hM e.symm
      · simp [h'] at hd
        exact g.sep c d x y M N hc hd hne hx hM hN
  · rw [Hp.get_set] at hc
    by_cases h : c = b
    · subst h; exact g.prot c k M hb hrw hM
    · simp [h] at hc; exact g.prot c x M hc hx hM

theorem Good.new (g : Good φ H K w) {n : Nat} (hn : φ n = none) (o : Obj) {L : Loc} (hL : L.blk = w.heap.size) {k : Blk} (hk : BRel (φ.put n L) (w.alloc o) L k) :
    Good (φ.put n L) ((n, k) :: H) K (w.alloc o) := by
  have hle := Ren.put_le hn L
  have hHn := g.absent hn
  have hold : ∀ c, c < w.heap.size → (w.alloc o).heap[c]? = w.heap[c]? := fun c hc => Go.RowKit.Below.heap_alloc w o c hc
  have get : ∀ b, Hp.get ((n, k) :: H) b = if b = n then some k else H.get b := fun b => by
    by_cases h : b = n
    · subst h; simp [Hp.get_cons]
    · have : ¬ n = b := fun e => h e.symm
      simp [Hp.get_cons, h, this]
  refine ⟨fun b x hx => ?_, fun c d x y M N hc hd hne hx hM hN => ?_, fun c x M hc hx hM hK => ?_, fun c hc => by simp; exact Nat.lt_succ_of_lt (g.kin c hc)⟩
  · rw [get] at hx
    by_cases h : b = n
    · subst h; simp at hx; subst hx; exact ⟨L, Ren.put_same φ b L, hk⟩
    · simp [h] at hx
      obtain ⟨M, hM, hr⟩ := g.rel b x hx
      exact ⟨M, by rw [Ren.put_other φ L h]; exact hM, (hr.congr (hold _ hr.lt)).mono hle⟩
  · rw [get] at hc hd
    by_cases h : c = n
    · subst h
      have h' : ¬ d = c := fun e => hne e.symm
      simp [h'] at hd
      rw [Ren.put_same] at hM; cases hM
      rw [Ren.put_other φ L h'] at hN
      obtain ⟨N', hN', hr⟩ := g.rel d y hd
      rw [hN] at hN'; cases hN'
      have := hr.lt
      omega
    · simp [h] at hc
      rw [Ren.put_other φ L h] at hM
      by_cases h' : d = n
      · subst h'
        rw [Ren.put_same] at hN; cases hN
        obtain ⟨M', hM', hr⟩ := g.rel c x hc
        rw [hM] at hM'; cases hM'
        have := hr.lt
        omega
      · simp [h'] at hd
        rw [Ren.put_other φ L h'] at hN
        exact g.sep c d x y M N hc hd hne hx hM hN
  · rw [get] at hc
    by_cases h : c = n
    · subst h
      rw [Ren.put_same] at hM; cases hM
      have := g.kin _ hK
      omega
    · simp [h] at hc
      rw [Ren.put_other φ L h] at hM
      exact g.prot c x M hc hx hM hK

theorem Went.alloc (g : Good φ H K w) (o : Obj) : Went K w (w.alloc o) :=
  ⟨rfl, rfl, rfl, by simp, fun c hc => Go.RowKit.Below.heap_alloc w o c (g.kin c hc)⟩
theorem Good.drew (g : Good φ H K w) : Good φ H K w.drew :=
  ⟨fun b k h => let ⟨L, h1, h2⟩ := g.rel b k h; ⟨L, h1, h2.congr rfl⟩, g.sep, g.prot, g.kin⟩
theorem Went.drew (K : Nat → Prop) (w : World) : Went K w w.drew := ⟨rfl, rfl, rfl, Nat.le_refl _, fun _ _ => rfl⟩

/-- Reading cells. -/
theorem Good.read (g : Good φ H K w) {b : Nat} {cs : List Value} {ro : Bool} {L : Loc} (hb : H.get b = some (.cells cs ro)) (hL : φ b = some L) (o n : Nat) (hn : o + n ≤ cs.length) :
    ∃ us, us.length = n ∧ (∀ (j : Nat) v, us[j]? = some v → w.cell? ⟨L.blk, L.off + o + j, none⟩ = some v) ∧ LRel φ ((cs.drop o).take n) us := by
  obtain ⟨arr, el, fr, h1, h2, h3⟩ := g.at hb hL
  have hcell : ∀ i, w.cell? ⟨L.blk, i, none⟩ = arr[i]? := fun i => by simp [World.cell?, h1]
  refine ⟨((arr.toList.drop (L.off + o)).take n), ?_, ?_, ?_⟩
  · have hlen : ∀ j, j < n → L.off + (o + j) < arr.size := fun j hj => by
      obtain ⟨v', hv', _⟩ := h2 (o + j) (cs[o + j]'(by omega)) (by simp)
      exact (Array.getElem?_eq_some_iff.1 hv').1
    simp
    cases n with
    | zero => simp
    | succ m => have := hlen m (by omega); omega
  · intro j v hv
    rw [hcell]
    rw [List.getElem?_take] at hv
    split at hv
    · simpa [List.getElem?_drop, Nat.add_assoc] using hv
    · cases hv
  · refine LRel.of_get ?_ ?_
    · have hlen : ∀ j, j < n → L.off + (o + j) < arr.size := fun j hj => by
        obtain ⟨v', hv', _⟩ := h2 (o + j) (cs[o + j]'(by omega)) (by simp)
        exact (Array.getElem?_eq_some_iff.1 hv').1
      simp
      cases n with
      | zero => simp
      | succ m => have := hlen m (by omega); omega
    · intro j v v' hv hv'
      rw [List.getElem?_take] at hv hv'
      by_cases hj : j < n
      · simp [hj, List.getElem?_drop] at hv hv'
        obtain ⟨u, hu, hr⟩ := h2 (o + j) v hv
        rw [← Nat.add_assoc, hv'] at hu
        cases hu; exact hr
      · simp [hj] at hv

def spl (cs : List Value) (o : Nat) (vs : List Value) : List Value := cs.take o ++ vs ++ cs.drop (o + vs.length)
theorem spl_get (cs : List Value) (o : Nat) (vs : List Value) (h : o + vs.length ≤ cs.length) (j : Nat) :
    (spl cs o vs)[j]? = if j < o then cs[j]? else if j < o + vs.length then vs[j - o]? else cs[j]? := by
  unfold spl
  have hmin : min o cs.length = o := by omega
  by_cases h1 : j < o
  · rw [List.append_assoc, List.getElem?_append_left (by simp [hmin]; exact h1)]
    simp [h1]
  · by_cases h2 : j < o + vs.length
    · rw [List.append_assoc, List.getElem?_append_right (by simp [hmin]; omega), List.getElem?_append_left (by simp [hmin]; omega)]
      simp [h1, h2, hmin]
    · rw [List.getElem?_append_right (by simp [hmin]; omega)]
      simp [h1, h2, hmin, List.getElem?_drop]
      congr 1; omega
theorem spl_length (cs : List Value) (o : Nat) (vs : List Value) (h : o + vs.length ≤ cs.length) : (spl cs o vs).length = cs.length := by
  simp [spl]; omega

theorem setRow_other (w : World) (g : Nat) (c : Array Value) (k : Nat) (h : k ≠ g) : (w.setRow g c).heap[k]? = w.heap[k]? := by
  unfold World.setRow
  simp only [Array.getElem?_modify]
  rw [if_neg (fun e => h e.symm)]
theorem setRow_size (w : World) (g : Nat) (c : Array Value) : (w.setRow g c).heap.size = w.heap.size := by
  unfold World.setRow; simp

/-- Writing cells into a block that may be written. -/
theorem Good.write (P : Program) (g : Good φ H K w) {b : Nat} {cs : List Value} {L : Loc} (hb : H.get b = some (.cells cs false)) (hL : φ b = some L) {vs us : List Value} (o : Nat)
    (hn : o + vs.length ≤ cs.length) (h1 : oneL vs = true) (hr : LRel φ vs us) (hne : vs ≠ []) :
    ∃ w', (storeCells ⟨L.blk, L.off + o, none⟩ us).run P w = .ok () w' ∧ Good φ (H.set b (.cells (spl cs o vs) false)) K w' ∧ Went K w w' := by
  obtain ⟨arr, el, fr, h2, h3, h4⟩ := g.at hb hL
  obtain ⟨rfl, hlim⟩ := h4 rfl
  have hl := hr.length
  have hpos : 0 < vs.length := List.length_pos_iff.2 hne
  have hsz : L.off + cs.length ≤ arr.size := by
    obtain ⟨v', hv', _⟩ := h3 (cs.length - 1) (cs[cs.length - 1]'(by omega)) (by simp)
    have := (Array.getElem?_eq_some_iff.1 hv').1
    omega
  have hst := run_storeCells_at P L.blk (L.off + o) el us 0 arr w h2 (by omega) (oneL_mem h1 hr)
  refine ⟨_, hst, g.upd hb rfl hL (fun c hc => setRow_other w L.blk _ c hc) (setRow_size w L.blk _) ?_, ?_⟩
  · refine ⟨_, el, (0, 0), setRow_heap w L.blk arr _ el _ h2, fun j v hv => ?_, fun _ => ⟨rfl, by simp; omega⟩⟩
    have e := spl_get arr.toList (L.off + o) us (by simp; omega) (L.off + j)
    simp only [Nat.add_zero]
    change ∃ v', (spl arr.toList (L.off + o) us).toArray[L.off + j]? = some v' ∧ VRel φ v v'
    rw [List.getElem?_toArray, e]
    rw [spl_get cs o vs hn] at hv
    by_cases hj : j < o
    · simp [hj] at hv ⊢
      exact h3 j v hv
    · by_cases hj2 : j < o + vs.length
      · simp [hj, hj2] at hv
        obtain ⟨u, hu, hru⟩ := hr.get hv
        have h5 : ¬ L.off + j < L.off + o := by omega
        have h6 : L.off + j < L.off + o + us.length := by omega
        have h7 : L.off + j - (L.off + o) = j - o := by omega
        simp only [h5, h6, h7, if_true, if_false]
        exact ⟨u, hu, hru⟩
      · simp [hj, hj2] at hv
        have h5 : ¬ L.off + j < L.off + o := by omega
        have h6 : ¬ L.off + j < L.off + o + us.length := by omega
        simp only [h5, h6, if_false]
        obtain ⟨u, hu, hru⟩ := h3 j v hv
        exact ⟨u, by simpa using hu, hru⟩
  · exact ⟨rfl, rfl, rfl, Nat.le_of_eq (setRow_size w L.blk _).symm, fun c hc => setRow_other w L.blk _ c (fun e => g.prot b _ L hb rfl hL (e ▸ hc))⟩

/-- Making a row of cells. -/
theorem Good.make (g : Good φ H K w) {n : Nat} (hn : φ n = none) {cs us : List Value} (hr : LRel φ cs us) (t : TypeId) (lim : Nat) (us' : List Value) (hlim : lim ≤ us.length + us'.length) :
    Good (φ.put n ⟨w.heap.size, 0, lim⟩) ((n, .cells cs false) :: H) K (w.alloc (.cells (us ++ us').toArray t)) := by
  refine g.new hn _ (L := ⟨w.heap.size, 0, lim⟩) rfl ⟨(us ++ us').toArray, t, (0, 0), ?_, ?_, ?_⟩
  · show (w.heap.push _)[w.heap.size]? = _
    simp
  · intro j v hv
    obtain ⟨u, hu, hru⟩ := hr.get hv
    refine ⟨u, ?_, hru.mono (Ren.put_le hn _)⟩
    have hj : j < us.length := (List.getElem?_eq_some_iff.1 hu).1
    simp [List.getElem?_append_left hj, hu]
  · intro _; exact ⟨rfl, by simpa using hlim⟩
end
end Go.En
