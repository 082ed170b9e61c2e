/- The engine, part FM: maps with keys of an integer type. -/
import Derived.Test.YtecplekkoikmmaaGreatEnF
import Derived.MapKept
noncomputable section
namespace Go.En
set_option linter.unusedVariables false
variable {P : Program} {φ : Ren} {H : Hp} {K : Nat → Prop} {w : World}

def absE : List (Value × Value × Nat) → List MapEntry
  | [] => []
  | (k, v, b) :: r => ⟨k, v, b⟩ :: absE r
theorem findNow_none {d : TypeDesc} {k : Value} : ∀ {es : List (Value × Value × Nat)} {xs : List MapEntry} {i : Nat}, ERel φ es xs → Instr.findNow d k (absE es) i = some none → Instr.findNow d k xs i = some none
  | [], [], _, _, h => h
  | (k0, v, b) :: r, e :: s, i, hr, h => by
    simp only [absE, Instr.findNow] at h ⊢
    rw [hr.1]
    split at h <;> rename_i hx
    · cases h
    · exact findNow_none hr.2.2 h
    · cases h
  | [], _ :: _, _, h, _ => h.elim
  | (_, _, _) :: _, [], _, h, _ => h.elim
theorem findNow_some {d : TypeDesc} {k u : Value} {j : Nat} : ∀ {es : List (Value × Value × Nat)} {xs : List MapEntry} {i : Nat}, ERel φ es xs → Instr.findNow d k (absE es) i = some (some (j, u)) → ∃ u', Instr.findNow d k xs i = some (some (j, u')) ∧ VRel φ u u'
  | [], [], _, _, h => by simp [absE, Instr.findNow] at h
  | (k0, v, b) :: r, e :: s, i, hr, h => by
    simp only [absE, Instr.findNow] at h ⊢
    rw [hr.1]
    split at h <;> rename_i hx
    · cases h
      exact ⟨e.val, rfl, hr.2.1⟩
    · exact findNow_some hr.2.2 h
    · cases h
  | [], _ :: _, _, h, _ => h.elim
  | (_, _, _) :: _, [], _, h, _ => h.elim
theorem ERel.push {k v v' : Value} {b b' : Nat} (hv : VRel φ v v') : ∀ {es : List (Value × Value × Nat)} {xs : List MapEntry}, ERel φ es xs → ERel φ (es ++ [(k, v, b)]) (xs ++ [⟨k, v', b'⟩])
  | [], [], _ => ⟨rfl, hv, trivial⟩
  | (_, _, _) :: _, _ :: _, h => ⟨h.1, h.2.1, ERel.push hv h.2.2⟩
  | [], _ :: _, h => h.elim
  | (_, _, _) :: _, [], h => h.elim
theorem ERel.put {k v v' : Value} {b : Nat} (hv : VRel φ v v') : ∀ {es : List (Value × Value × Nat)} {xs : List MapEntry} {i : Nat} {u : Value}, ERel φ es xs → es[i]? = some (k, u, b) → ERel φ (es.set i (k, v, b)) (xs.modify i fun e => { e with key := k, val := v' })
  | [], [], i, u, _, h => by simp at h
  | (k0, v0, b0) :: r, e :: s, 0, u, hr, h => by
    simp at h
    obtain ⟨rfl, rfl, rfl⟩ := h
    exact ⟨rfl, hv, hr.2.2⟩
  | (k0, v0, b0) :: r, e :: s, i + 1, u, hr, h => by
    simp only [List.set_cons_succ, List.modify_succ_cons]
    exact ⟨hr.1, hr.2.1, ERel.put hv hr.2.2 (by simpa using h)⟩
  | [], _ :: _, _, _, h, _ => h.elim
  | (_, _, _) :: _, [], _, _, h, _ => h.elim
theorem ERel.at {k u : Value} {b : Nat} : ∀ {es : List (Value × Value × Nat)} {xs : List MapEntry} {i : Nat}, ERel φ es xs → es[i]? = some (k, u, b) → ∃ e, xs[i]? = some e ∧ e.key = k
  | [], [], i, _, h => by simp at h
  | (k0, v0, b0) :: r, e :: s, 0, hr, h => by
    simp at h
    obtain ⟨rfl, rfl, rfl⟩ := h
    exact ⟨e, rfl, hr.1⟩
  | (k0, v0, b0) :: r, e :: s, i + 1, hr, h => by
    simpa using ERel.at hr.2.2 (i := i) (by simpa using h)
  | [], _ :: _, _, h, _ => h.elim
  | (_, _, _) :: _, [], _, h, _ => h.elim

def isIntD : TypeDesc → Bool
  | .int _ => true
  | _ => false
def isIntV : Value → Bool
  | .int _ _ => true
  | _ => false
theorem int_dv {d : TypeDesc} {j : Value} (h1 : isIntD d = true) (h2 : isIntV j = true) : ∃ d0 k m, d = .int d0 ∧ j = .int k m := by
  cases d <;> simp [isIntD] at h1
  cases j <;> simp [isIntV] at h2
  exact ⟨_, _, _, rfl, rfl⟩
theorem MRel.find_some {es : List (Value × Value × Nat)} {xs : List MapEntry} (hr : MRel φ es xs) {d : TypeDesc} {j u : Value} {i : Nat} (h1 : isIntD d = true) (h2 : isIntV j = true) (h : Instr.findNow d j (absE es) 0 = some (some (i, u))) :
    ∃ t u' e ys, ys.Perm xs ∧ ERel φ es ys ∧ Instr.findNow d j xs 0 = some (some (t, u')) ∧ VRel φ u u' ∧ xs[t]? = some e ∧ ys[i]? = some e ∧ e.key = j := by
  obtain ⟨d0, k', m, rfl, rfl⟩ := int_dv h1 h2
  obtain ⟨⟨ys, hp, he⟩, ⟨k, hk⟩, ha⟩ := hr
  obtain ⟨u', hf, hu⟩ := findNow_some he h
  have hkk : k' = k := by
    cases ys with
    | nil => simp [Instr.findNow] at hf
    | cons y ys =>
      obtain ⟨n, hn⟩ := hk.perm hp y (by simp)
      exact findNow_kind hf hn
  subst hkk
  rw [findNow_int d0 k'] at hf
  obtain ⟨t, e, e1, e2, e3, e4, _⟩ := find_perm_some hp hk ha hf
  exact ⟨t, u', e, ys, hp, he, by rw [findNow_int d0 k']; exact e1, hu, e2, e3, e4⟩
theorem MRel.find_none {es : List (Value × Value × Nat)} {xs : List MapEntry} (hr : MRel φ es xs) {d : TypeDesc} {j : Value} (h1 : isIntD d = true) (h2 : isIntV j = true) (h : Instr.findNow d j (absE es) 0 = some none) :
    Instr.findNow d j xs 0 = some none ∧ (∃ k m, j = .int k m ∧ KindK k xs) ∧ ∀ e ∈ xs, e.key ≠ j := by
  obtain ⟨d0, k', m, rfl, rfl⟩ := int_dv h1 h2
  obtain ⟨⟨ys, hp, he⟩, ⟨k, hk⟩, ha⟩ := hr
  have hf := findNow_none he h
  cases ys with
  | nil =>
    have : xs = [] := List.nil_perm.1 hp
    subst this
    exact ⟨rfl, ⟨k', m, rfl, fun x hx => by cases hx⟩, fun e he => by cases he⟩
  | cons y ys =>
    obtain ⟨n, hn⟩ := hk.perm hp y (by simp)
    have hkk := findNow_kind hf hn
    subst hkk
    rw [findNow_int d0 k'] at hf ⊢
    have h3 := find_perm_none hp hk hf
    refine ⟨h3, ⟨k', m, rfl, hk⟩, fun e hm hkey => ?_⟩
    obtain ⟨t, h4, _⟩ := find_in hk ha hm hkey
    rw [h3] at h4
    cases h4
theorem MRel.push {es : List (Value × Value × Nat)} {xs : List MapEntry} (hr : MRel φ es xs) {k : IntKind} {m : Int} (hk : KindK k xs) (hn : ∀ e ∈ xs, e.key ≠ .int k m) {v v' : Value} (hv : VRel φ v v') (b b' : Nat) : MRel φ (es ++ [(.int k m, v, b)]) (xs ++ [⟨.int k m, v', b'⟩]) := by
  obtain ⟨⟨ys, hp, he⟩, _, ha⟩ := hr
  refine ⟨⟨ys ++ [⟨.int k m, v', b'⟩], hp.append_right _, ERel.push hv he⟩, ⟨k, fun x hx => ?_⟩, ?_⟩
  · rcases List.mem_append.1 hx with hx | hx
    · exact hk x hx
    · simp at hx; exact ⟨m, by rw [hx]⟩
  · refine List.pairwise_append.2 ⟨ha, by simp, fun x hx y hy => ?_⟩
    simp at hy
    rw [hy]
    exact hn x hx

theorem ERel.perm {es es' : List (Value × Value × Nat)} (hp : es.Perm es') : ∀ {ys : List MapEntry}, ERel φ es ys → ∃ ys', ys'.Perm ys ∧ ERel φ es' ys' := by
  induction hp with
  | nil => intro ys h; exact ⟨ys, .refl _, h⟩
  | cons x _ ih =>
    intro ys h
    cases ys with
    | nil => exact h.elim
    | cons y ys =>
      obtain ⟨ys', p, hr⟩ := ih h.2.2
      exact ⟨y :: ys', p.cons y, h.1, h.2.1, hr⟩
  | swap x y l =>
    intro ys h
    match ys, h with
    | [], h => exact h.elim
    | [_], h => exact h.2.2.elim
    | a :: b :: ys, h => exact ⟨b :: a :: ys, .swap a b ys, h.2.2.1, h.2.2.2.1, h.1, h.2.1, h.2.2.2.2⟩
  | trans _ _ ih1 ih2 =>
    intro ys h
    obtain ⟨y1, p1, h1⟩ := ih1 h
    obtain ⟨y2, p2, h2⟩ := ih2 h1
    exact ⟨y2, p2.trans p1, h2⟩
theorem MRel.perm {es es' : List (Value × Value × Nat)} {xs : List MapEntry} (h : MRel φ es xs) (hp : es.Perm es') : MRel φ es' xs := by
  obtain ⟨⟨ys, p, he⟩, h2⟩ := h
  obtain ⟨ys', p', he'⟩ := he.perm hp
  exact ⟨⟨ys', p'.trans p, he'⟩, h2⟩
theorem erase_perm : ∀ {l : List MapEntry} {t : Nat} {e : MapEntry}, l[t]? = some e → (e :: l.eraseIdx t).Perm l
  | [], t, e, h => by simp at h
  | x :: l, 0, e, h => by simp at h; subst h; exact .refl _
  | x :: l, t + 1, e, h => by
    have ih := erase_perm (l := l) (t := t) (e := e) (by simpa using h)
    simp only [List.eraseIdx_cons_succ]
    exact (List.Perm.swap x e _).trans (ih.cons x)
theorem set_perm {a : MapEntry} : ∀ {l : List MapEntry} {t : Nat}, t < l.length → (l.set t a).Perm (a :: l.eraseIdx t)
  | [], t, h => by simp at h
  | x :: l, 0, h => .refl _
  | x :: l, t + 1, h => by
    have ih := set_perm (a := a) (l := l) (t := t) (by simpa using h)
    simp only [List.eraseIdx_cons_succ, List.set_cons_succ]
    exact (ih.cons x).trans (List.Perm.swap a x _)
theorem modify_perm {xs : List MapEntry} {t : Nat} {e : MapEntry} (f : MapEntry → MapEntry) (h : xs[t]? = some e) : (xs.modify t f).Perm (f e :: xs.eraseIdx t) := by
  obtain ⟨ht, rfl⟩ := List.getElem?_eq_some_iff.1 h
  have : xs.modify t f = xs.set t (f xs[t]) := by
    apply List.ext_getElem?
    intro i
    rw [List.getElem?_modify, List.getElem?_set]
    by_cases hi : t = i
    · subst hi; simp [ht]
    · simp [hi]
  rw [this]
  exact set_perm ht
theorem modify_key {f : MapEntry → MapEntry} : ∀ {xs : List MapEntry} {t : Nat}, (∀ e, xs[t]? = some e → (f e).key = e.key) → (xs.modify t f).map (·.key) = xs.map (·.key)
  | [], t, _ => by cases t <;> rfl
  | x :: xs, 0, h => by simp [h x (by simp)]
  | x :: xs, t + 1, h => by
    simp only [List.modify_succ_cons, List.map_cons]
    rw [modify_key (xs := xs) (t := t) fun e he => h e (by simpa using he)]
theorem MRel.put {es : List (Value × Value × Nat)} {xs ys : List MapEntry} (hr : MRel φ es xs) (hp : ys.Perm xs) (he : ERel φ es ys) {i t : Nat} {e : MapEntry} {k u v v' : Value} {b : Nat} (h1 : xs[t]? = some e) (h2 : ys[i]? = some e) (hk : e.key = k) (h3 : es[i]? = some (k, u, b)) (hv : VRel φ v v') :
    MRel φ (es.set i (k, v, b)) (xs.modify t fun e => { e with key := k, val := v' }) := by
  obtain ⟨_, ⟨kk, hkk⟩, ha⟩ := hr
  have hkey : (xs.modify t fun e => { e with key := k, val := v' }).map (·.key) = xs.map (·.key) := modify_key fun f hf => by
    rw [h1] at hf; cases hf; exact hk.symm
  refine ⟨⟨ys.modify i fun e => { e with key := k, val := v' }, ?_, ERel.put hv he h3⟩, ⟨kk, fun x hx => ?_⟩, ?_⟩
  · refine (modify_perm _ h2).trans (List.Perm.trans ?_ (modify_perm _ h1).symm)
    refine List.Perm.cons _ ?_
    exact ((erase_perm h2).trans (hp.trans (erase_perm h1).symm)).cons_inv
  · have : x.key ∈ xs.map (·.key) := by rw [← hkey]; exact List.mem_map.2 ⟨x, hx, rfl⟩
    obtain ⟨y, hy, hxy⟩ := List.mem_map.1 this
    rw [← hxy]
    exact hkk y hy
  · have h4 : (xs.map (·.key)).Pairwise (· ≠ ·) := List.pairwise_map.2 ha
    rw [← hkey] at h4
    exact List.pairwise_map.1 h4

theorem born_modify {f : MapEntry → MapEntry} (hf : ∀ e, (f e).born = e.born) : ∀ (xs : List MapEntry) (t : Nat), (xs.modify t f).map (·.born) = xs.map (·.born)
  | [], t => by cases t <;> rfl
  | x :: xs, 0 => by simp [hf x]
  | x :: xs, t + 1 => by
    simp only [List.modify_succ_cons, List.map_cons]
    rw [born_modify hf xs t]
theorem Born.modify {cl : Nat} {xs : List MapEntry} (h : Born cl xs) {f : MapEntry → MapEntry} (hf : ∀ e, (f e).born = e.born) (t : Nat) : Born cl (xs.modify t f) := by
  have hm := born_modify hf xs t
  refine ⟨fun x hx => ?_, by rw [hm]; exact h.2⟩
  have : x.born ∈ xs.map (·.born) := by rw [← hm]; exact List.mem_map.2 ⟨x, hx, rfl⟩
  obtain ⟨y, hy, hxy⟩ := List.mem_map.1 this
  rw [← hxy]; exact h.1 y hy
theorem Born.push {cl : Nat} {xs : List MapEntry} (h : Born cl xs) {e : MapEntry} (he : e.born = cl) : Born (cl + 1) (xs ++ [e]) := by
  refine ⟨fun x hx => ?_, ?_⟩
  · rcases List.mem_append.1 hx with hx | hx
    · have := h.1 x hx; omega
    · simp at hx; rw [hx, he]; omega
  · rw [List.map_append, List.nodup_append]
    refine ⟨h.2, by simp, fun a ha b hb => ?_⟩
    simp at hb
    obtain ⟨y, hy, rfl⟩ := List.mem_map.1 ha
    have := h.1 y hy
    rw [hb, he]; omega

/-- The entries of a map. -/
def mapOf (H : Hp) : Value → Option (List (Value × Value × Nat))
  | .map none => some []
  | .map (some r) => match H.get r with
    | some (.mp es _) => some es
    | _ => none
  | _ => none
def doLookup (P : Program) (H : Hp) (t : TypeId) (x j : Value) (c : Bool) : Option Value :=
  match undF P t with
  | some (.map kt et) => match undF P kt, infoF P et, mapOf H x with
    | some d, some inf, some es => match inf.zero with
      | some z => if isIntD d && isIntV j && av z then match Instr.findNow d j (absE es) 0 with
          | some (some (_, u)) => some (if c then .tuple #[u, .bool true] else u)
          | some none => some (if c then .tuple #[z, .bool false] else z)
          | none => none
        else none
      | none => none
    | _, _, _ => none
  | _ => none
theorem isKey_int {d : TypeDesc} {j : Value} (h1 : isIntD d = true) (h2 : isIntV j = true) (e : Bool) (n : Nat) {kt : TypeId} (hd : P.underlying kt = some d) : (Instr.checkKey e (n + 1) kt j).run P w = .ok () w := by
  unfold Instr.checkKey
  simp only [Sem.run_bind, run_underlying hd, Result.andThen]
  cases d <;> simp [isIntD] at h1
  cases j <;> simp [isIntV] at h2
  rfl
theorem int_rel {j j' : Value} (h : isIntV j = true) (hr : VRel φ j j') : j' = j := by
  cases hr <;> first | rfl | simp [isIntV] at h
theorem doLookup_ok (g : Good φ H K w) {t : TypeId} {x j x' j' v : Value} {c : Bool} (h : doLookup P H t x j c = some v) (hx : VRel φ x x') (hj : VRel φ j j') : ∃ v', (Instr.lookup t x' j' c).run P w = .ok v' w ∧ VRel φ v v' := by
  unfold doLookup at h
  simp only [infoF_eq, undF_eq] at h
  split at h
  case h_2 => cases h
  rename_i kt et hu
  split at h
  case h_2 => cases h
  rename_i d inf es hd hi hes
  split at h
  case h_2 => cases h
  rename_i z hz
  split at h
  case isFalse => cases h
  rename_i hc
  simp only [Bool.and_eq_true] at hc
  have hj2 := int_rel hc.1.2 hj
  subst hj2
  have key : ∃ xs : Array MapEntry, MRel φ es xs.toList ∧ ((x' = .map none ∧ xs = #[]) ∨ ∃ b cl, x' = .map (some b) ∧ w.heap[b]? = some (.map xs cl)) := by
    unfold mapOf at hes
    split at hes
    · cases hes; cases hx; exact ⟨#[], MRel.nil φ, .inl ⟨rfl, rfl⟩⟩
    · rename_i r
      split at hes
      case h_2 => cases hes
      rename_i es0 cl hg
      cases hes
      cases hx with
      | map _ L hL =>
        obtain ⟨xs, e1, e2, _⟩ := g.at hg hL
        exact ⟨xs, e2, .inr ⟨L.blk, cl, rfl, e1⟩⟩
    · cases hes
  obtain ⟨xs, hxs, hrun⟩ := key
  have hck : ∀ e, (Instr.checkKey e 10000 kt j').run P w = .ok () w := fun e => isKey_int hc.1.1 hc.1.2 e 9999 hd
  split at h
  · rename_i i u hf
    cases h
    obtain ⟨t, u', e, ys, _, _, hf', hu', _⟩ := hxs.find_some hc.1.1 hc.1.2 hf
    have hk := MapKept.run_findKey (P := P) (w := w) hd hf'
    refine ⟨if c then .tuple #[u', .bool true] else u', ?_, ?_⟩
    · unfold Instr.lookup
      rcases hrun with ⟨rfl, rfl⟩ | ⟨b, cl, rfl, hb⟩
      · simp only [Sem.run_bind, run_underlying hu, Result.andThen, Sem.run_pure, hck, hk]
      · simp only [Sem.run_bind, run_underlying hu, Result.andThen, MapKept.run_getObj_map hb, Sem.run_pure, hck, hk]
    · cases c
      · exact hu'
      · exact .tuple' ⟨hu', .bool _, trivial⟩
  · rename_i hf
    cases h
    have hf' := (hxs.find_none hc.1.1 hc.1.2 hf).1
    have hk := MapKept.run_findKey (P := P) (w := w) hd hf'
    refine ⟨if c then .tuple #[z, .bool false] else z, ?_, ?_⟩
    · unfold Instr.lookup
      rcases hrun with ⟨rfl, rfl⟩ | ⟨b, cl, rfl, hb⟩
      · simp only [Sem.run_bind, run_underlying hu, Result.andThen, Sem.run_pure, hck, hk, run_zeroValue' hi hz]
      · simp only [Sem.run_bind, run_underlying hu, Result.andThen, MapKept.run_getObj_map hb, Sem.run_pure, hck, hk, run_zeroValue' hi hz]
    · cases c
      · exact av_rel hc.2
      · exact .tuple' ⟨av_rel hc.2, .bool _, trivial⟩
  · cases h

def eqInt : Value → Value → Bool
  | .int a b, .int c d => a == c && b == d
  | _, _ => false
theorem eqInt_eq {a b : Value} (h : eqInt a b = true) : a = b := by
  unfold eqInt at h
  split at h
  · simp only [Bool.and_eq_true, beq_iff_eq] at h; rw [h.1, h.2]
  · cases h
def doMapUpd (P : Program) (H : Hp) (t : TypeId) (m k v : Value) : Option Hp :=
  match undF P t, m with
  | some (.map kt _), .map (some r) => match undF P kt, H.get r with
    | some d, some (.mp es cl) => if isIntD d && isIntV k then match Instr.findNow d k (absE es) 0 with
        | some (some (i, _)) => match es[i]? with
          | some (k0, _, b) => if eqInt k0 k then some (H.set r (.mp (es.set i (k, v, b)) cl)) else none
          | none => none
        | some none => some (H.set r (.mp (es ++ [(k, v, cl)]) (cl + 1)))
        | none => none
      else none
    | _, _ => none
  | _, _ => none
theorem doMapUpd_ok (g : Good φ H K w) {t : TypeId} {m k v m' k' v' : Value} {H' : Hp} (h : doMapUpd P H t m k v = some H') (hm : VRel φ m m') (hk : VRel φ k k') (hv : VRel φ v v') :
    ∃ w', (Instr.mapUpdate t m' k' v').run P w = .ok () w' ∧ Good φ H' K w' ∧ Went K w w' := by
  unfold doMapUpd at h
  simp only [undF_eq] at h
  split at h
  case h_2 => cases h
  rename_i kt et r hu
  split at h
  case h_2 => cases h
  rename_i d es cl hd hg
  split at h
  case isFalse => cases h
  rename_i hc
  simp only [Bool.and_eq_true] at hc
  have hk2 := int_rel hc.2 hk
  subst hk2
  cases hm with
  | map _ L hL =>
    obtain ⟨xs, e1, e2, e3⟩ := g.at hg hL
    have hlt : L.blk < w.heap.size := (Array.getElem?_eq_some_iff.1 e1).1
    have hck : (Instr.checkKey false 10000 kt k').run P w = .ok () w := isKey_int hc.1 hc.2 false 9999 hd
    have fin : ∀ (es2 : List (Value × Value × Nat)) (xs2 : Array MapEntry) (cl2 : Nat), MRel φ es2 xs2.toList → Born cl2 xs2.toList → Good φ (H.set r (.mp es2 cl2)) K { w with heap := w.heap.setIfInBounds L.blk (.map xs2 cl2) } ∧ Went K w { w with heap := w.heap.setIfInBounds L.blk (.map xs2 cl2) } := fun es2 xs2 cl2 hr hbo => by
      have hget : ∀ c, c ≠ L.blk → (w.heap.setIfInBounds L.blk (.map xs2 cl2))[c]? = w.heap[c]? := fun c hc => by
        rw [Array.getElem?_setIfInBounds, if_neg (fun e => hc e.symm)]
      refine ⟨g.upd hg rfl hL hget (by show (w.heap.setIfInBounds _ _).size = _; simp) ⟨xs2, ?_, hr, hbo⟩, rfl, rfl, rfl, ?_, fun c hcK => hget c fun e => g.prot r _ L hg rfl hL (e ▸ hcK)⟩
      · show (w.heap.setIfInBounds L.blk (.map xs2 cl2))[L.blk]? = _
        rw [Array.getElem?_setIfInBounds]; simp [hlt]
      · show w.heap.size ≤ (w.heap.setIfInBounds _ _).size; simp
    split at h
    · rename_i i u hf
      split at h
      case h_2 => cases h
      rename_i k0 u0 b hi
      split at h
      case isFalse => cases h
      rename_i heq
      have heq2 := eqInt_eq heq
      subst heq2
      cases h
      obtain ⟨t, u', e, ys, hp, he, hf', hu', h1, h2, hkey⟩ := e2.find_some hc.1 hc.2 hf
      have hfk := MapKept.run_findKey (P := P) (w := w) hd hf'
      have hkey2 : (((xs[t]?).map (·.key)).getD k0) = k0 := by
        have : xs[t]? = some e := by simpa using h1
        rw [this]; simpa using hkey
      have hsame : Instr.sameBits 10000 k0 k0 = true := by
        cases k0 <;> simp [isIntV] at hc
        simp [Instr.sameBits]
      have hst : (Instr.keyThatStays k0 k0).run P w = .ok k0 w := by
        unfold Instr.keyThatStays
        rw [hsame]; rfl
      obtain ⟨f1, f2⟩ := fin (es.set i (k0, v, b)) (xs.modify t fun e => { e with key := k0, val := v' }) cl (by rw [Array.toList_modify]; exact e2.put hp he h1 h2 hkey hi hv) (by rw [Array.toList_modify]; exact e3.modify (f := fun e => { e with key := k0, val := v' }) (fun _ => rfl) t)
      refine ⟨_, ?_, f1, f2⟩
      unfold Instr.mapUpdate
      simp only [Sem.run_bind, run_underlying hu, Result.andThen, MapKept.run_getObj_map e1, hck, hfk, hkey2, hst]
      exact MapKept.run_setObj_map _ e1
    · rename_i hf
      cases h
      obtain ⟨hf', ⟨ki, m, rfl, hkd⟩, hne⟩ := e2.find_none hc.1 hc.2 hf
      have hfk := MapKept.run_findKey (P := P) (w := w) hd hf'
      obtain ⟨f1, f2⟩ := fin (es ++ [(.int ki m, v, cl)]) (xs.push ⟨.int ki m, v', cl⟩) (cl + 1) (by rw [Array.toList_push]; exact e2.push hkd hne hv _ _) (by rw [Array.toList_push]; exact e3.push rfl)
      refine ⟨_, ?_, f1, f2⟩
      unfold Instr.mapUpdate
      simp only [Sem.run_bind, run_underlying hu, Result.andThen, MapKept.run_getObj_map e1, hck, hfk]
      exact MapKept.run_setObj_map _ e1
    · cases h
/-- A new map. -/
theorem newMap_ok (g : Good φ H K w) {n : Nat} (hn : φ n = none) :
    ∃ φ', (newObj (.map #[] 0)).run P w = .ok w.heap.size (w.alloc (.map #[] 0)) ∧ Ext φ φ' n (n + 1) ∧ Good φ' ((n, .mp [] 0) :: H) K (w.alloc (.map #[] 0)) ∧ VRel φ' (.map (some n)) (.map (some w.heap.size)) := by
  have hlast : (w.alloc (.map #[] 0)).heap[w.heap.size]? = some (.map #[] 0) := by
    show (w.heap.push _)[w.heap.size]? = _
    simp
  have hg := g.new hn (.map #[] 0) (L := ⟨w.heap.size, 0, 0⟩) rfl (k := .mp [] 0) ⟨#[], hlast, MRel.nil _, (fun x hx => by simp at hx), by simp⟩
  refine ⟨_, rfl, Ext.put hn _, hg, ?_⟩
  exact .map n ⟨w.heap.size, 0, 0⟩ (Ren.put_same _ _ _)
/-- The beginning of an iteration over a map. -/
def doRange (P : Program) (H : Hp) (nx : Nat) (t : TypeId) (x : Value) : Option (Value × Hp × Nat) :=
  match undF P t, x with
  | some (.map _ _), .map (some r) => match H.get r with
    | some (.mp es cl) => some (.pointer (some ⟨nx, 0, none⟩), (nx, .iter r cl) :: H, nx + 1)
    | _ => none
  | _, _ => none
theorem doRange_ok (g : Good φ H K w) {n : Nat} (hn : φ n = none) {t : TypeId} {x x' v : Value} {H' : Hp} {n' : Nat} (h : doRange P H n t x = some (v, H', n')) (hx : VRel φ x x') :
    ∃ v' w' φ', (Instr.range t x').run P w = .ok v' w' ∧ VRel φ' v v' ∧ Ext φ φ' n n' ∧ Good φ' H' K w' ∧ Went K w w' ∧ n ≤ n' := by
  unfold doRange at h
  simp only [undF_eq] at h
  split at h
  case h_2 => cases h
  rename_i kt et r hu
  split at h
  case h_2 => cases h
  rename_i es cl hg
  cases h
  cases hx with
  | map _ M hM =>
    obtain ⟨xs, e1, e2, e3⟩ := g.at hg hM
    have hrn : r ≠ n := by rintro rfl; rw [hn] at hM; cases hM
    have hlast : (w.alloc (.mapIter (some M.blk) cl #[] cl)).heap[w.heap.size]? = some (.mapIter (some M.blk) cl #[] cl) := by
      show (w.heap.push _)[w.heap.size]? = _
      simp
    have hg := g.new hn (.mapIter (some M.blk) cl #[] cl) (L := ⟨w.heap.size, 0, 0⟩) rfl (k := .iter r cl) ⟨M, by rw [Ren.put_other _ _ hrn]; exact hM, rfl, hlast⟩
    refine ⟨.pointer (some ⟨w.heap.size, 0, none⟩), _, _, ?_, ?_, Ext.put hn _, hg, Went.alloc g _, Nat.le_succ _⟩
    · unfold Instr.range
      simp only [Sem.run_bind, run_underlying hu, Result.andThen, MapKept.run_getObj_map e1, Sem.run_pure]
      rfl
    · have := VRel.ptr (φ := φ.put n ⟨w.heap.size, 0, 0⟩) n 0 _ (Ren.put_same _ _ _)
      simpa using this
end Go.En
