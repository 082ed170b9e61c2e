/- Parts of a proof, joined: L, LB, M, N, O, OB, OC, P, PB, Q, S, U, V. -/
import Derived.Test.YtfpbgiaiifcnlaaEw3
/- The symbolic engine, part L: copies, appends; all operations that call no Go function. -/
noncomputable section
namespace Go.Fz.Sy
set_option linter.unusedVariables false
set_option linter.unusedSimpArgs false
variable {P : Program} {φ : Ren} {K : Nat → Prop} {w : World} {R : Type}

/-- The elements of a slice that is read. -/
def srcL (H : SH) (ty : Ty) : SV → Option (List (T ty))
  | .lst t l _ => if h : t = ty then some (castL h l) else none
  | .own b => match sget H b with
    | some (.arr _ t l) => if h : t = ty then some (castL h l) else none
    | some (.roa _ t l) => if h : t = ty then some (castL h l) else none
    | _ => none
  | .nils => some []
  | _ => none
theorem flat_encE (ty : Ty) (l : List (T ty)) : ((l.map (encE ty)).flatMap fun e => e.cells.toList) = flatA ty l := by
  induction l with
  | nil => rfl
  | cons x l ih => simp only [List.map_cons, List.flatMap_cons, ih]; rfl
theorem own_cells {ν : Nat → Bool} {nx : Nat} {H : SH} (hv : VN ν nx H) {b : Nat} {nn : Bool} {ty : Ty} {l : List (T ty)} {ro : Bool} (hr : reg (sget H b) = some (l.length, rsz nn ty l)) (hd : nilA nn l = false → (denH ν H).get b = some (.cells (flatA ty l) ro)) :
    srcCells (denH ν H) (sz ty) (rho ν H b) = some (l.length, flatA ty l) := by
  rw [rho_of ν hr]
  cases hn : nilA nn l with
  | true =>
    obtain ⟨_, rfl⟩ := nilA_true hn
    simp [srcCells, flatA]
  | false =>
    simp only [cond_false, srcCells]
    by_cases h0 : l.length = 0
    · have : l = [] := List.length_eq_zero_iff.1 h0
      subst this
      simp [flatA]
    · rw [if_neg h0]
      simp only [hd hn, flatA_len, Nat.zero_add, Nat.le_refl, if_true, List.drop_zero]
      rw [List.take_of_length_le (by rw [flatA_len]; omega)]
theorem srcL_den {ν : Nat → Bool} {nx : Nat} {H : SH} (hv : VN ν nx H) {ty : Ty} {x : SV} {l : List (T ty)} (h : srcL H ty x = some l) : srcCells (denH ν H) (sz ty) (den (rho ν H) x) = some (l.length, flatA ty l) := by
  unfold srcL at h
  split at h
  · rename_i t l0 full
    split at h
    case isFalse => cases h
    rename_i ht
    subst ht
    cases h
    have hes : fzEls (den (rho ν H) (.lst t l0 full)) = some (sz t, (l0.map (encE t)).toArray, full) := by cases full <;> simp [den, fzV, fzEls]
    have : srcCells (denH ν H) (sz t) (den (rho ν H) (.lst t l0 full)) = fzCells (sz t) (den (rho ν H) (.lst t l0 full)) := by cases full <;> simp [den, fzV, srcCells]
    rw [this]
    unfold fzCells
    rw [hes]
    simp [flat_encE, castL]
  · rename_i b
    split at h
    · rename_i nn t l0 hb
      split at h
      case isFalse => cases h
      rename_i ht
      subst ht
      cases h
      exact own_cells hv (ro := false) (nn := nn) (by rw [hb]; rfl) fun hn => by rw [denH_get, hb]; have hn' : nilA nn l0 = false := hn; simp [denB, hn', castL]
    · rename_i nn t l0 hb
      split at h
      case isFalse => cases h
      rename_i ht
      subst ht
      cases h
      exact own_cells hv (ro := true) (nn := nn) (by rw [hb]; rfl) fun hn => by rw [denH_get, hb]; have hn' : nilA nn l0 = false := hn; simp [denB, hn', castL]
    · cases h
  · cases h
    simp [den, srcCells, flatA]
  · cases h
theorem builtin_exec {o : Oper} {a : Act} {b : Builtin} {args : Array Operand} {ats : Array TypeId} (ho : o.op = .call { callee := .builtin b, args := args, argTypes := ats }) :
    ∃ cs, execOp a.eval o = builtin b ats o.type cs (args.map a.eval) := by
  refine ⟨args.map fun | .const _ => true | _ => false, ?_⟩
  unfold execOp
  simp only [ho]
  show builtin b ats o.type _ _ = _
  congr 1

/-! ### copy -/
def copyL {α : Type} (l l2 : List α) : List α := l2.take l.length ++ l.drop l2.length
def copyK (P : Program) (tm : List SV) (H : SH) (nx : Nat) (t : TypeId) (d x : Operand) (k : KO R) : Option R := match sopv tm H d, sopv tm H x with
  | some (.own b), some v => match sget H b, undF P t with
    | some (.arr true ty l), some (.slice e) => bif sizeIs P e (sz ty) && Nat.blt 0 (sz ty) then match srcL H ty v with
      | some l2 => k (.int .i64 (Nat.min l2.length l.length : Nat)) (sset H b (.arr true ty (copyL l l2))) (nx + 1)
      | none => none
      else none
    | _, _ => none
  | _, _ => none
theorem copyK_ok {rd : Option Nat} {o : Oper} {tm : List SV} {H : SH} {nx : Nat} {k : KO R} {r : R} {t u : TypeId} {d x : Operand} (ho : o.op = .call { callee := .builtin .copy, args := #[d, x], argTypes := #[t, u] }) (h : copyK P tm H nx t d x k = some r) : Told P rd o tm H nx k r := by
  unfold copyK at h
  split at h
  case h_2 => cases h
  rename_i b v hd hx
  split at h
  case h_2 => cases h
  rename_i ty l e hb hu
  have h6 := cond_some h
  clear h
  obtain ⟨hh, h⟩ := h6
  simp only [Bool.and_eq_true] at hh
  obtain ⟨ie, hie, hsz⟩ := sizeIs_some hh.1
  have hpos := blt_lt hh.2
  split at h
  case h_2 => cases h
  rename_i l2 hl2
  have hcl : (copyL l l2).length = l.length := by simp [copyL]; omega
  have hreg : ∀ c, reg (sget (sset H b (.arr true ty (copyL l l2))) c) = reg (sget H c) := fun c => by
    rw [sget_set]
    by_cases hc : c = b
    · subst hc; simp [hb, reg, hcl, rsz, nilA]
    · rw [if_neg hc]
  have hnn : ∀ c, notNil (sget (sset H b (.arr true ty (copyL l l2))) c) = true → notNil (sget H c) = true := fun c hc => by
    rw [sget_set] at hc
    by_cases hcb : c = b
    · subst hcb; rw [hb]; rfl
    · rwa [if_neg hcb] at hc
  refine told ⟨fun c z hz => by rw [hreg c]; exact hz, lkeep_set hb (fun L => by simp), Nat.le_succ _, fun ν hv => ⟨(vn_congr hreg hnn hv).later (Nat.le_succ _), ?_⟩⟩ h
  have hdb : (denH ν H).get b = some (.cells (flatA ty l) false) := by rw [denH_get, hb]; simp [denB, nilA]
  refine opOk_run (Nat.le_succ _) (fun c hc => by rw [ho] at hc; cases hc) fun φ w K a g hf ht => ?_
  have hdr := opv_rel ht (sopv_den hd ν)
  have hxr := opv_rel ht (sopv_den hx ν)
  have hρ : den (rho ν H) (.own b) = .slice (some ⟨b, 0, none⟩) l.length (openCap + sz ty) := by
    simp only [den]
    rw [rho_of ν (nn := true) (t := ty) (l := l) (by rw [hb]; rfl)]
    rfl
  rw [hρ] at hdr
  rw [undF_eq] at hu
  rw [infoF_eq] at hie
  have hsrc := srcL_den hv hl2
  rw [← hsz] at hsrc
  obtain ⟨w', r1, r2, r3⟩ := copyTo_ok (P := P) (ts := u) (ty := o.type) g hu hie hdb hdr hsrc hxr (by rw [flatA_len, hsz]) (by omega) (oneL_of fun c hc => by
    simp only [flatA, List.mem_flatMap] at hc
    obtain ⟨y, _, hc⟩ := hc
    exact encC_one _ _ _ hc)
  obtain ⟨cs, he⟩ := builtin_exec (a := a) ho
  have hmap : (#[d, x] : Array Operand).map a.eval = #[a.eval d, a.eval x] := by simp
  rw [he, hmap]
  show OpRan P φ K w nx (do pure (.value (← Builtin.copy_ #[t, u] o.type #[a.eval d, a.eval x])) : Sem Next) _ _ _
  refine Ran.op (s := Builtin.copy_ #[t, u] o.type #[a.eval d, a.eval x]) ⟨_, w', φ, r1, ?_, Ext.refl _ _ _ _, ?_, r3, Nat.le_succ _⟩
  · simp only [den, goInt]; exact .int _ _
  · refine r2.sub fun c k hc => ?_
    rw [denH_get, sget_set, rho_congr hreg] at hc
    rw [Hp.get_set]
    by_cases hcb : c = b
    · subst hcb
      simp [hb, denB, nilA] at hc
      rw [if_pos rfl, hdb]
      simp only [Option.map_some, Option.some.injEq]
      rw [← hc]
      congr 1
      unfold spl
      have e1 : (flatA ty l2).take (Nat.min l2.length l.length * ie.size) = flatA ty (l2.take l.length) := by
        rw [hsz, flatA_take]
        congr 1
        by_cases h0 : l2.length ≤ l.length
        · rw [show Nat.min l2.length l.length = l2.length from Nat.min_eq_left h0, List.take_of_length_le (Nat.le_refl _), List.take_of_length_le h0]
        · rw [show Nat.min l2.length l.length = l.length from Nat.min_eq_right (by omega)]
      rw [e1, flatA_len, List.take_zero, List.nil_append, Nat.zero_add, flatA_drop, copyL, flatA_append]
      congr 2
      by_cases h0 : l2.length ≤ l.length
      · rw [List.take_of_length_le h0]
      · rw [List.length_take, Nat.min_eq_left (by omega), List.drop_eq_nil_of_le (Nat.le_refl _), List.drop_eq_nil_of_le (by omega)]
    · rw [if_neg hcb] at hc ⊢
      rw [denH_get]; exact hc

/-! ### append -/
def appOk (n m bytes : Nat) : Bool := Nat.ble (n + m) maxLen && Nat.ble ((n + m) * bytes) 140737488355328
/-- Elements appended where nothing is, or where a copy is made. -/
def appNew (H0 H : SH) (nx : Nat) (ty : Ty) (bytes : Nat) (l l2 : List (T ty)) (s : SV) (k : KO R) : Option R := match l2 with
  | [] => k s H0 (nx + 1)
  | y :: ys => match newS H nx (.arr true ty (l ++ y :: ys)) with
    | some H' => bif appOk l.length (y :: ys).length bytes then k (.own nx) H' (nx + 1) else none
    | none => none
def isLst : SV → Bool
  | .lst _ _ _ => true
  | _ => false
def tyS (H : SH) : SV → Option Ty
  | .lst t _ _ => some t
  | .own b => match sget H b with
    | some (.arr _ t _) => some t
    | some (.roa _ t _) => some t
    | _ => none
  | _ => none
def appK (P : Program) (tm : List SV) (H : SH) (nx : Nat) (t : TypeId) (s x : Operand) (k : KO R) : Option R := match sopv tm H s, sopv tm H x with
  | some sv, some xv => match undF P t with
    | some (.slice e) => match infoF P e with
      | some ie => match sv with
        | .nils => match tyS H xv with
          | some ty => bif zeroT P e ty then match srcL H ty xv with
            | some l2 => match newS H nx (.arr false ty l2) with
              | some H' => bif appOk 0 l2.length ie.bytes then k (.own nx) H' (nx + 1) else none
              | none => none
            | none => none
            else none
          | none => none
        | .own b => match sget H b with
          | some (.arr nn ty l) => bif zeroT P e ty then match srcL H ty xv with
            | some l2 => match newS (sset H b (.gone (rsz nn ty l) l.length)) nx (.arr nn ty (l ++ l2)) with
                | some H' => bif appOk l.length l2.length ie.bytes then k (.own nx) H' (nx + 1) else none
                | none => none
            | none => none
            else none
          | _ => none
        | .lst ty l true => bif zeroT P e ty then match srcL H ty xv with
          | some l2 => bif isLst xv then match newS H nx (.fro true ty (l ++ l2)) with
              | some _ => bif appOk l.length l2.length ie.bytes then k (.lst ty (l ++ l2) false) H (nx + 1) else none
              | none => none
            else appNew H H nx ty ie.bytes l l2 (.lst ty l true) k
          | none => none
          else none
        | _ => none
      | none => none
    | _ => none
  | _, _ => none
/-- The first array gives way to the second. -/
theorem rho_set_gone {H : SH} {b : Nat} {nn : Bool} {ty : Ty} {l : List (T ty)} (hb : sget H b = some (.arr nn ty l)) (c : Nat) : reg (sget (sset H b (.gone (rsz nn ty l) l.length)) c) = reg (sget H c) := by
  rw [sget_set]
  by_cases hc : c = b
  · subst hc
    rw [if_pos rfl, hb]
    exact reg_gone nn ty l
  · rw [if_neg hc]
theorem nn_set_gone {H : SH} {b : Nat} {nn : Bool} {ty : Ty} {l : List (T ty)} (hb : sget H b = some (.arr nn ty l)) (c : Nat) (h : notNil (sget (sset H b (.gone (rsz nn ty l) l.length)) c) = true) : notNil (sget H c) = true := by
  rw [sget_set] at h
  by_cases hc : c = b
  · subst hc; simp [hb, notNil] at h
  · rwa [if_neg hc] at h
theorem denH_set_gone {ν : Nat → Bool} {H : SH} {b : Nat} {nn : Bool} {ty : Ty} {l : List (T ty)} (hb : sget H b = some (.arr nn ty l)) (c : Nat) (k : Blk) (h : (denH ν (sset H b (.gone (rsz nn ty l) l.length))).get c = some k) : ((denH ν H).del b).get c = some k := by
  rw [denH_get, sget_set, rho_congr (rho_set_gone hb)] at h
  rw [Hp.get_del]
  by_cases hc : c = b
  · subst hc; simp [hb, denB] at h
  · rw [if_neg hc] at h ⊢
    rw [denH_get]; exact h
theorem append_exec {o : Oper} {a : Act} {t : TypeId} {so xo : Operand} (ho : o.op = .call { callee := .builtin .append, args := #[so, xo], argTypes := #[t, t] }) :
    execOp a.eval o = (do pure (.value (← Builtin.append_ #[t, t] o.type #[a.eval so, a.eval xo])) : Sem Next) := by
  obtain ⟨cs, he⟩ := builtin_exec (a := a) ho
  have hmap : (#[so, xo] : Array Operand).map a.eval = #[a.eval so, a.eval xo] := by simp
  rw [he, hmap]; rfl
/-- What is known of the element's type. -/
structure ElOk (P : Program) (t e : TypeId) (ie : TypeInfo) (ty : Ty) : Prop where
  hu : undF P t = some (.slice e)
  hie : infoF P e = some ie
  hz : ∃ z, ie.zero = some z ∧ z.cells.size = ie.size ∧ 0 < ie.size
  hsz : sz ty = ie.size
theorem ElOk.of {t e : TypeId} {ie : TypeInfo} {ty : Ty} (hu : undF P t = some (.slice e)) (hie : infoF P e = some ie) (h : zeroT P e ty = true) : ElOk P t e ie ty := by
  obtain ⟨i, z, e1, e2, e3, e4, e5, _⟩ := zeroT_ok h
  rw [← infoF_eq, hie] at e1
  cases e1
  exact ⟨hu, hie, ⟨z, e2, e3, e4⟩, e5⟩
theorem appOk_some {n m bytes : Nat} (h : appOk n m bytes = true) : n + m ≤ maxLen ∧ (n + m) * bytes ≤ 140737488355328 := by
  simp only [appOk, Bool.and_eq_true] at h
  exact ⟨Nat.le_of_ble_eq_true h.1, Nat.le_of_ble_eq_true h.2⟩
/-- Nothing is appended. -/
theorem app_zero {ν : Nat → Bool} {H : SH} (g : Good φ (denH ν H) K w) {t e : TypeId} {ie : TypeInfo} {ty : Ty} (hE : ElOk P t e ie ty) {tt : TypeId} {x s' x' : Value} {news : List Value} (hsrc : srcCells (denH ν H) ie.size x = some (0, news)) (hx : VRel φ x x') (hs : ∃ a n c, s' = .slice a n c ∧ n ≤ c) :
    (Builtin.append_ #[t, t] tt #[s', x']).run P w = .ok s' w := by
  obtain ⟨ax, cx, us, rfl, _⟩ := srcCells_ok g hsrc hx
  obtain ⟨a, n, c, rfl, hn⟩ := hs
  have h1 := hE.hu
  have h2 := hE.hie
  rw [undF_eq] at h1
  rw [infoF_eq] at h2
  exact run_append_zero h1 h2 a n c hn ax cx w
theorem flat_one (ty : Ty) (l : List (T ty)) : oneL (flatA ty l) = true := oneL_of fun c hc => by
  simp only [flatA, List.mem_flatMap] at hc
  obtain ⟨y, _, hc⟩ := hc
  exact encC_one _ _ _ hc
theorem del_sub {H : Hp} {b c : Nat} {k : Blk} (h : (H.del b).get c = some k) : H.get c = some k := by
  rw [Hp.get_del] at h
  by_cases hc : c = b
  · rw [if_pos hc] at h; cases h
  · rwa [if_neg hc] at h
/-- Something is appended to an array of ours. -/
theorem app_own {ν : Nat → Bool} {H : SH} {nx : Nat} {b : Nat} {nn : Bool} {ty : Ty} {l l2 : List (T ty)} {t e : TypeId} {ie : TypeInfo} (hE : ElOk P t e ie ty) (hb : sget H b = some (.arr nn ty l)) (hv : VN ν nx H) {xv : SV} (hsrc : srcL H ty xv = some l2) (hne : l2 ≠ [])
    (hok : appOk l.length l2.length ie.bytes = true) : ∃ v Hd, doAppend P (denH ν H) nx t (rho ν H b) (den (rho ν H) xv) = some (v, Hd, nx + 1) ∧ v = .slice (some ⟨nx, 0, none⟩) (l.length + l2.length) (openCap + ie.size) ∧ ∀ c k, Hp.get ((nx, .cells (flatA ty (l ++ l2)) false) :: (denH ν H).del b) c = some k → Hd.get c = some k := by
  have hs := srcL_den hv hsrc
  obtain ⟨h1, h2⟩ := appOk_some hok
  obtain ⟨z, z1, z2, z3⟩ := hE.hz
  have hm : l2.length ≠ 0 := fun h0 => hne (List.length_eq_zero_iff.1 h0)
  have hr : reg (sget H b) = some (l.length, rsz nn ty l) := by rw [hb]; rfl
  have hso := own_cells hv (b := b) (ty := ty) (l := l) (ro := false) hr (fun hn => by rw [denH_get, hb]; simp [denB, hn])
  rw [hE.hsz] at hs hso
  cases hn : nilA nn l with
  | true =>
    obtain ⟨_, rfl⟩ := nilA_true hn
    have hρ : rho ν H b = .slice none 0 0 := by rw [rho_of ν hr, hn]; rfl
    refine ⟨.slice (some ⟨nx, 0, none⟩) l2.length (openCap + ie.size), (nx, .cells (flatA ty l2) false) :: denH ν H, ?_, by simp, fun c k hc => ?_⟩
    · rw [hρ]
      unfold doAppend
      simp only [hE.hu, hE.hie, z1, hs, z2, z3, and_self, if_true, hm, if_false]
      simp only [List.length_nil, Nat.zero_add] at h1 h2
      rw [if_pos ⟨h1, h2⟩]
    · simp only [List.nil_append] at hc
      exact sub_del c k hc
  | false =>
    have hρ : rho ν H b = .slice (some ⟨b, 0, none⟩) l.length (openCap + sz ty) := by rw [rho_of ν hr, hn]; rfl
    have hd : (denH ν H).get b = some (.cells (flatA ty l) false) := by rw [denH_get, hb]; simp [denB, hn]
    refine ⟨.slice (some ⟨nx, 0, none⟩) (l.length + l2.length) (openCap + ie.size), (nx, .cells (flatA ty l ++ flatA ty l2) false) :: (denH ν H).del b, ?_, rfl, fun c k hc => by rwa [flatA_append] at hc⟩
    rw [hρ] at hso ⊢
    have c1 : ¬ openCap + sz ty < l.length + l2.length := by simp only [maxLen, openCap] at *; omega
    have c2 : openCap ≤ openCap + sz ty := Nat.le_add_right _ _
    have c3 : openCap + sz ty - openCap = ie.size := by rw [hE.hsz]; omega
    unfold doAppend
    simp only [hE.hu, hE.hie, z1, hs, z2, z3, and_self, if_true, hm, if_false, hso, h1, h2, c1, c2, c3, hd, flat_one, implies_true]
theorem own_shape {ν : Nat → Bool} {H : SH} {b : Nat} {v' : Value} {nn : Bool} {ty : Ty} {l : List (T ty)} (hb : sget H b = some (.arr nn ty l)) (h : VRel φ (rho ν H b) v') : ∃ a n c, v' = .slice a n c ∧ n ≤ c := by
  rw [rho_of ν (nn := nn) (t := ty) (l := l) (by rw [hb]; rfl)] at h
  cases hn : nilA nn l with
  | true => rw [hn] at h; cases h; exact ⟨_, _, _, rfl, Nat.le_refl _⟩
  | false =>
    rw [hn, cond_false] at h
    generalize hc0 : openCap + sz ty = c0 at h
    generalize hn0 : l.length = n0 at h
    cases h with
    | sl _ _ _ _ L hL hc => omega
    | slO _ _ _ _ c' L hL hc hnc hl => exact ⟨_, _, _, rfl, hnc⟩
    | slE _ _ _ a' L hL hc => exact ⟨_, _, _, rfl, Nat.le_refl _⟩
theorem arr_le {H H2 : SH} {nx : Nat} {b : Nat} {nn nn' : Bool} {ty : Ty} {l l' : List (T ty)} (hb : sget H b = some (.arr nn ty l)) (hn : newS (sset H b (.gone (rsz nn ty l) l.length)) nx (.arr nn' ty l') = some H2) :
    RegLe H H2 ∧ LKeep H H2 ∧ ∀ ν, VN ν nx H → VN ν (nx + 1) H2 ∧ (nilA nn' l' = false → rho ν H2 nx = .slice (some ⟨nx, 0, none⟩) l'.length (openCap + sz ty)) ∧ (∀ φ K w, Good φ ((nx, .cells (flatA ty l') false) :: (denH ν H).del b) K w → Good φ (denH ν H2) K w) ∧
      (nilA nn' l' = true → rho ν H2 nx = .slice none 0 0 ∧ ∀ φ K w, Good φ (denH ν H) K w → Good φ (denH ν H2) K w) := by
  obtain ⟨h1, rfl⟩ := newS_some hn
  have hr : RegLe H (sset H b (.gone (rsz nn ty l) l.length)) := fun c z hz => by rw [rho_set_gone hb]; exact hz
  refine ⟨hr.trans (new_reg h1), (lkeep_set hb (fun L => by simp)).trans (new_lkeep h1), fun ν hv => ?_⟩
  have hv1 := vn_congr (rho_set_gone hb) (nn_set_gone hb) hv
  refine ⟨new_vn hv1, fun hl => rho_newArr hv1 hl, fun φ K w g => good_newArr h1 hv1 (g.sub fun c k hc => ?_), fun hl => ⟨rho_newNil hl, fun φ K w g => good_skip h1 (by simp [denB, hl]) (g.sub fun c k hc => del_sub (denH_set_gone hb c k hc))⟩⟩
  simp only [Hp.get_cons] at hc ⊢
  split at hc
  · rename_i he; rw [if_pos he]; exact hc
  · rename_i he; rw [if_neg he]; exact denH_set_gone hb c k hc
/-- A new array of ours, from nothing or from a copy. -/
theorem appNew_ok {rd : Option Nat} {o : Oper} {tm : List SV} {H0 H : SH} {nx : Nat} {k : KO R} {r : R} {ty : Ty} {bytes : Nat} {l l2 : List (T ty)} {s : SV} (h : appNew H0 H nx ty bytes l l2 s k = some r)
    (h0 : l2 = [] → SOp P rd o tm H0 nx s H0 (nx + 1))
    (h1 : ∀ H', l2 ≠ [] → newS H nx (.arr true ty (l ++ l2)) = some H' → appOk l.length l2.length bytes = true → SOp P rd o tm H0 nx (.own nx) H' (nx + 1)) : Told P rd o tm H0 nx k r := by
  unfold appNew at h
  split at h
  · exact told (h0 rfl) h
  · split at h
    case h_2 => cases h
    rename_i y ys H' hn
    obtain ⟨hok, h2⟩ := cond_some h
    exact told (h1 H' (by simp) hn hok) h2
theorem appK_ok {rd : Option Nat} {o : Oper} {tm : List SV} {H : SH} {nx : Nat} {k : KO R} {r : R} {t : TypeId} {so xo : Operand} (ho : o.op = .call { callee := .builtin .append, args := #[so, xo], argTypes := #[t, t] }) (h : appK P tm H nx t so xo k = some r) : Told P rd o tm H nx k r := by
  unfold appK at h
  split at h
  case h_2 => cases h
  rename_i sv xv hs hx
  split at h
  case h_2 => cases h
  rename_i e hu
  split at h
  case h_2 => cases h
  rename_i ie hie
  have hnd : ∀ c, o.op ≠ .defer c := fun c hc => by rw [ho] at hc; cases hc
  -- what is run
  have run : ∀ {ν : Nat → Bool} {H' : SH} {v : SV} {vd : Value} {Hd : Hp}, VN ν nx H → (∀ φ K w, Good φ (denH ν H) K w → ∀ s', VRel φ (den (rho ν H) sv) s' → ∃ sd, VRel φ sd s' ∧ doAppend P (denH ν H) nx t sd (den (rho ν H) xv) = some (vd, Hd, nx + 1)) →
      (∀ φ K w v', Good φ Hd K w → VRel φ vd v' → ∃ φ', (∀ n, Ext K φ φ' n n) ∧ Good φ' (denH ν H') K w ∧ VRel φ' (den (rho ν H') v) v') → OpOk P rd o (denL (rho ν H) tm) (denH ν H) nx (den (rho ν H') v) (denH ν H') (nx + 1) := by
    intro ν H' v vd Hd hv h1 h2
    refine opOk_run (Nat.le_succ _) hnd fun φ w K a g hf ht => ?_
    have hsr := opv_rel ht (sopv_den hs ν)
    have hxr := opv_rel ht (sopv_den hx ν)
    have hfr := hf.at (Nat.le_refl nx) (Nat.lt_succ_self nx)
    obtain ⟨sd, e1, e2⟩ := h1 φ K w g _ hsr
    obtain ⟨v', w', φ', r1, r2, r3, r4, r5, _⟩ := doAppend_ok (P := P) (ty := o.type) g hfr.1 hfr.2 e2 e1 hxr
    obtain ⟨φ2, f1, f2, f3⟩ := h2 φ' K w' v' r4 r2
    rw [append_exec ho]
    exact Ran.op ⟨v', w', φ2, r1, f3, r3.trans (f1 (nx + 1)) (Nat.le_succ _) (Nat.le_refl _), f2, r5, Nat.le_succ _⟩
  have idExt : ∀ (φ : Ren) (K : Nat → Prop), ∀ n, Ext K φ φ n n := fun φ K n => Ext.refl _ _ _ _
  split at h
  · -- nil
    split at h
    case h_2 => cases h
    rename_i ty hty
    have h6 := cond_some h
    clear h
    obtain ⟨hz, h⟩ := h6
    have hE := ElOk.of hu hie hz
    obtain ⟨z, z1, z2, z3⟩ := hE.hz
    split at h
    case h_2 => cases h
    rename_i l2 hl2
    split at h
    case h_2 => cases h
    rename_i H' hnew
    have h7 := cond_some h
    clear h
    obtain ⟨hok, h⟩ := h7
    refine told ?_ h
    obtain ⟨hn1, rfl⟩ := newS_some hnew
    refine ⟨new_reg hn1, new_lkeep hn1, Nat.le_succ _, fun ν hv => ⟨new_vn hv, ?_⟩⟩
    have hsrc := srcL_den hv hl2
    rw [hE.hsz] at hsrc
    cases hne : l2 with
    | nil =>
      subst hne
      refine run (v := .own nx) (vd := .slice none 0 0) (Hd := denH ν H) hv (fun φ K w g s' hs' => ⟨.slice none 0 0, by simpa only [den] using hs', ?_⟩) (fun φ K w v' g hv' => ⟨φ, idExt φ K, good_skip hn1 rfl g, by simp only [den]; rw [rho_newNil rfl]; exact hv'⟩)
      unfold doAppend
      simp [hE.hu, hE.hie, z1, hsrc, z2, z3]
    | cons y ys =>
      rw [← hne]
      have hnn : l2 ≠ [] := by rw [hne]; simp
      have hm : l2.length ≠ 0 := fun h0 => hnn (List.length_eq_zero_iff.1 h0)
      obtain ⟨b1, b2⟩ := appOk_some hok
      simp only [Nat.zero_add] at b1 b2
      refine run (v := .own nx) (vd := .slice (some ⟨nx, 0, none⟩) l2.length (openCap + ie.size)) (Hd := (nx, .cells (flatA ty l2) false) :: denH ν H) hv (fun φ K w g s' hs' => ⟨.slice none 0 0, by simpa only [den] using hs', ?_⟩) (fun φ K w v' g hv' => ⟨φ, idExt φ K, good_newArr hn1 hv (by simpa using g), ?_⟩)
      · unfold doAppend
        simp [hE.hu, hE.hie, z1, hsrc, z2, z3, hm, b1, b2]
      · simp only [den]
        rw [rho_newArr hv (nilA_ne hnn), hE.hsz]
        simpa using hv'
  · -- an array of ours
    rename_i b
    split at h
    case h_2 => cases h
    rename_i nn ty l hb
    have h6 := cond_some h
    clear h
    obtain ⟨hz, h⟩ := h6
    have hE := ElOk.of hu hie hz
    obtain ⟨z, z1, z2, z3⟩ := hE.hz
    split at h
    case h_2 => cases h
    rename_i l2 hl2
    have more : ∀ {H2 : SH}, newS (sset H b (.gone (rsz nn ty l) l.length)) nx (.arr nn ty (l ++ l2)) = some H2 → l2 ≠ [] → appOk l.length l2.length ie.bytes = true → SOp P rd o tm H nx (.own nx) H2 (nx + 1) := by
      intro H2 hnew hne hok
      obtain ⟨q1, q2, q3⟩ := arr_le hb hnew
      refine ⟨q1, q2, Nat.le_succ _, fun ν hv => ?_⟩
      obtain ⟨q4, q5, q6, _⟩ := q3 ν hv
      obtain ⟨vd, Hd, e1, rfl, e3⟩ := app_own hE hb hv hl2 hne hok
      refine ⟨q4, run hv (fun φ K w g s' hs' => ⟨rho ν H b, by simpa only [den] using hs', e1⟩) (fun φ K w v' g hv' => ⟨φ, idExt φ K, q6 φ K w (g.sub e3), ?_⟩)⟩
      simp only [den]
      rw [q5 (nilA_ne (by simp [hne])), hE.hsz, List.length_append]
      exact hv'
    split at h
    case h_2 => cases h
    rename_i H2 hnew
    have h7 := cond_some h
    clear h
    obtain ⟨hok, h⟩ := h7
    by_cases hne : l2 = []
    · subst hne
      rw [List.append_nil] at hnew
      obtain ⟨q1, q2, q3⟩ := arr_le hb hnew
      refine told ⟨q1, q2, Nat.le_succ _, fun ν hv => ?_⟩ (by assumption)
      obtain ⟨q4, q5, q6, q7⟩ := q3 ν hv
      refine ⟨q4, opOk_run (Nat.le_succ _) hnd fun φ w K a g hf ht => ?_⟩
      have hsr := opv_rel ht (sopv_den hs ν)
      have hxr := opv_rel ht (sopv_den hx ν)
      simp only [den] at hsr
      have hfr := hf.at (Nat.le_refl nx) (Nat.lt_succ_self nx)
      have hsrc := srcL_den hv hl2
      rw [hE.hsz] at hsrc
      have hrun := app_zero (tt := o.type) g hE hsrc hxr (own_shape hb hsr)
      have hr : reg (sget H b) = some (l.length, rsz nn ty l) := by rw [hb]; rfl
      rw [append_exec ho]
      generalize a.eval so = us at hsr hrun ⊢
      rw [rho_of ν hr] at hsr
      cases hn : nilA nn l with
      | true =>
        obtain ⟨e1, e2⟩ := q7 hn
        rw [hn] at hsr
        exact Ran.op ⟨us, w, φ, hrun, by simp only [den]; rw [e1]; exact hsr, Ext.refl _ _ _ _, e2 φ K w g, Went.refl _ _, Nat.le_succ _⟩
      | false =>
        have hd : (denH ν H).get b = some (.cells (flatA ty l) false) := by rw [denH_get, hb]; simp [denB, hn]
        obtain ⟨φ', f1, f2, f3⟩ := rename_ok g hfr.1 hfr.2 hd
        refine Ran.op ⟨us, w, φ', hrun, ?_, f1, q6 φ' K w (by simpa using f2), Went.refl _ _, Nat.le_succ _⟩
        simp only [den]
        rw [q5 hn]
        rw [hn, cond_false] at hsr
        generalize openCap + sz ty = c0 at hsr ⊢
        generalize l.length = n0 at hsr ⊢
        cases hsr with
        | sl _ _ _ _ L hL hc => exact .sl _ _ _ _ L (f3 L hL) hc
        | slO _ _ _ _ c' L hL hc hnc hl => exact .slO _ _ _ _ c' L (f3 L hL) hc hnc hl
        | slE _ _ _ a' L hL hc => exact .slE _ _ _ a' L (f3 L hL) hc
    · exact told (more hnew hne hok) h
  · -- a list whose capacity is its length
    rename_i ty l
    have h6 := cond_some h
    clear h
    obtain ⟨hz, h⟩ := h6
    have hE := ElOk.of hu hie hz
    obtain ⟨z, z1, z2, z3⟩ := hE.hz
    split at h
    case h_2 => cases h
    rename_i l2 hl2
    have hes : ∀ ν, fzEls (den (rho ν H) (.lst ty l true)) = some (sz ty, (l.map (encE ty)).toArray, true) := fun ν => by simp [den, fzV, fzEls]
    have happ : ∀ {ν}, VN ν nx H → l2 ≠ [] → appOk l.length l2.length ie.bytes = true → doAppend P (denH ν H) nx t (den (rho ν H) (.lst ty l true)) (den (rho ν H) xv) = some (.slice (some ⟨nx, 0, none⟩) (l.length + l2.length) (openCap + ie.size), (nx, .cells (flatA ty (l ++ l2)) false) :: denH ν H, nx + 1) := by
      intro ν hv hne hok
      have hsrc := srcL_den hv hl2
      rw [hE.hsz] at hsrc
      have hm : l2.length ≠ 0 := fun h0 => hne (List.length_eq_zero_iff.1 h0)
      obtain ⟨b1, b2⟩ := appOk_some hok
      have hfc : fzCells ie.size (.iface (sz ty) (.agg (l.map (encE ty)).toArray)) = some (l.length, flatA ty l) := by
        unfold fzCells
        simp [fzEls, hE.hsz, flat_encE]
      unfold doAppend
      simp only [hE.hu, hE.hie, z1, hsrc, z2, z3, and_self, if_true, den, fzV, cond_true, fzEls, hm, if_false, hE.hsz]
      have hl0 : ((l.map (encE ty)).toArray).size = l.length := by simp
      rw [hE.hsz] at hfc
      simp only [hl0, b1, b2, and_self, if_true, hfc, flatA_append]
    have stay : l2 = [] → ∀ (v : SV), (∀ ν φ v', VRel φ (den (rho ν H) (.lst ty l true)) v' → VRel φ (den (rho ν H) v) v') → SOp P rd o tm H nx v H (nx + 1) := by
      intro hn v hvr
      subst hn
      refine ⟨RegLe.refl H, LKeep.refl H, Nat.le_succ _, fun ν hv => ⟨hv.later (Nat.le_succ _), ?_⟩⟩
      have hsrc := srcL_den hv hl2
      rw [hE.hsz] at hsrc
      refine run (v := v) (vd := den (rho ν H) (.lst ty l true)) (Hd := denH ν H) hv (fun φ K w g s' hs' => ⟨_, hs', ?_⟩) (fun φ K w v' g hv' => ⟨φ, idExt φ K, g, hvr ν φ v' hv'⟩)
      unfold doAppend
      simp [hE.hu, hE.hie, z1, hsrc, z2, z3, den, fzV, fzEls]
    rcases bif_split h with ⟨_, h⟩ | ⟨_, h⟩
    · split at h
      case h_2 => cases h
      rename_i H9 hnew
      obtain ⟨hn1, _⟩ := newS_some hnew
      have h6 := cond_some h
      clear h
      obtain ⟨hok, h⟩ := h6
      by_cases hne : l2 = []
      · have := stay hne (.lst ty (l ++ l2) false) (fun ν φ v' hv' => by
          subst hne
          simp only [den, List.append_nil] at hv' ⊢
          exact full_weak hv')
        exact told this h
      · refine told ⟨RegLe.refl H, LKeep.refl H, Nat.le_succ _, fun ν hv => ⟨hv.later (Nat.le_succ _), ?_⟩⟩ h
        refine run (v := .lst ty (l ++ l2) false) (vd := .slice (some ⟨nx, 0, none⟩) (l.length + l2.length) (openCap + ie.size)) (Hd := (nx, .cells (flatA ty (l ++ l2)) false) :: denH ν H) hv (fun φ K w g s' hs' => ⟨_, hs', happ hv hne hok⟩) (fun φ K w v' g hv' => ?_)
        -- the new block is frozen and forgotten
        obtain ⟨φ', f1, f2⟩ := good_fzc g (b := nx) (cs := flatA ty (l ++ l2)) (by simp [Hp.get_cons])
        have hnone : (denH ν H).get nx = none := by rw [denH_get, hn1]; rfl
        have hgo : ∀ c k, (denH ν H).get c = some k → c ≠ nx := fun c k hc e => by subst e; rw [hnone] at hc; cases hc
        have g1 : Good φ' (denH ν H) K w := f2 _ fun c k hc => by
          have hne2 := hgo c k hc
          rw [if_neg hne2]
          have : (nx == c) = false := by simpa using fun e : nx = c => hne2 e.symm
          simp [Hp.get_cons, this, hc]
        have g2 : Good φ' (denH ν ((nx, .fro true ty (l ++ l2)) :: H)) K w := by
          refine good_newS hn1 (x := .fzc (flatA ty (l ++ l2))) (by simp [denB, nilA]) (f2 _ fun c k hc => ?_)
          by_cases hcn : c = nx
          · subst hcn
            simp [Hp.get_cons] at hc
            simp [hc]
          · rw [if_neg hcn]
            have : (nx == c) = false := by simpa using fun e : nx = c => hcn e.symm
            simp [Hp.get_cons, this] at hc ⊢
            exact hc
        refine ⟨φ', f1, g1, ?_⟩
        simp only [den]
        refine fro_rel g2 (new_vn hv) (b := nx) (by rw [sget_cons, if_pos rfl]) (by rw [hE.hsz]; exact z3) ?_
        have hρ : rho ν ((nx, .fro true ty (l ++ l2)) :: H) nx = .slice (some ⟨nx, 0, none⟩) (l.length + l2.length) (openCap + ie.size) := by
          rw [rho_of ν (nn := true) (t := ty) (l := l ++ l2) (by rw [sget_cons, if_pos rfl]; rfl)]
          simp [nilA, hE.hsz]
        rw [hρ]
        exact hv'.mono (f1 0).1
    · refine appNew_ok h (fun hn => stay hn _ fun ν φ v' hv' => hv') (fun H' hne hnew hok => ?_)
      obtain ⟨hn1, rfl⟩ := newS_some hnew
      refine ⟨new_reg hn1, new_lkeep hn1, Nat.le_succ _, fun ν hv => ⟨new_vn hv, ?_⟩⟩
      refine run (v := .own nx) (vd := .slice (some ⟨nx, 0, none⟩) (l.length + l2.length) (openCap + ie.size)) (Hd := (nx, .cells (flatA ty (l ++ l2)) false) :: denH ν H) hv (fun φ K w g s' hs' => ⟨_, hs', happ hv hne hok⟩) (fun φ K w v' g hv' => ⟨φ, idExt φ K, good_newArr hn1 hv g, ?_⟩)
      simp only [den]
      rw [rho_newArr hv rfl, hE.hsz, List.length_append]
      exact hv'
  · cases h
end Go.Fz.Sy
/- The symbolic engine, part LB: maps whose keys are integers. -/
noncomputable section
namespace Go.Fz.Sy
set_option linter.unusedVariables false
set_option linter.unusedSimpArgs false
variable {P : Program} {φ : Ren} {K : Nat → Prop} {w : World} {R : Type}

/-- A key's value, or another. -/
def mpD {α : Type} (l : List (Int × α)) (n : Int) (z : α) : α := match l with
  | [] => z
  | p :: r => bif ieqF p.1 n then p.2 else mpD r n z
/-- Whether a key is there. -/
def mpH {α : Type} (l : List (Int × α)) (n : Int) : Bool := match l with
  | [] => false
  | p :: r => bif ieqF p.1 n then true else mpH r n
/-- A key put. -/
def mpP {α : Type} (l : List (Int × α)) (n : Int) (x : α) : List (Int × α) := match l with
  | [] => [(n, x)]
  | p :: r => bif ieqF p.1 n then (n, x) :: r else p :: mpP r n x
/-- Where a key is. -/
def mpI {α : Type} (l : List (Int × α)) (n : Int) : Option Nat := match l with
  | [] => none
  | p :: r => bif ieqF p.1 n then some 0 else (mpI r n).map (· + 1)

theorem ents_find {k : IntKind} {ag : Bool} {t : Ty} (n : Int) (d : IntKind) : ∀ (l : List (Int × T t)) (i j : Nat),
    Instr.findNow (.int d) (.int k n) (absE (entsM k ag t l i)) j = some ((mpI l n).map fun s => (j + s, mvV ag t (mpD l n (zeroD t))))
  | [], _, _ => rfl
  | p :: r, i, j => by
    simp only [entsM, absE, Instr.findNow, Instr.sameNow, if_true, mpI, mpD]
    cases h : ieqF p.1 n with
    | true =>
      have h1 := ieqF_eq p.1 n
      rw [h] at h1
      have : p.1 = n := by simpa using h1.symm
      simp [this]
    | false =>
      have h1 := ieqF_eq p.1 n
      rw [h] at h1
      have : ¬ n = p.1 := fun e => by simp [e] at h1
      have hb : (n == p.1) = false := by simpa using this
      rw [hb]
      dsimp only
      rw [ents_find n d r (i + 1) (j + 1)]
      cases mpI r n with
      | none => rfl
      | some s => simp [Nat.add_assoc, Nat.add_comm 1 s]
theorem mpH_I {α : Type} (n : Int) : ∀ l : List (Int × α), mpH l n = (mpI l n).isSome
  | [] => rfl
  | p :: r => by
    simp only [mpH, mpI]
    cases ieqF p.1 n with
    | true => rfl
    | false => simp [mpH_I n r]
theorem mpD_none {α : Type} (n : Int) (z : α) : ∀ l : List (Int × α), mpI l n = none → mpD l n z = z
  | [], _ => rfl
  | p :: r, h => by
    simp only [mpI] at h
    simp only [mpD]
    cases hq : ieqF p.1 n with
    | true => rw [hq] at h; cases h
    | false =>
      rw [hq] at h
      simp only [cond_false, Option.map_eq_none_iff] at h
      exact mpD_none n z r h
theorem ents_len {k : IntKind} {ag : Bool} {t : Ty} : ∀ (l : List (Int × T t)) (i : Nat), (entsM k ag t l i).length = l.length
  | [], _ => rfl
  | p :: r, i => by simp [entsM, ents_len r]
theorem ents_put_new {k : IntKind} {ag : Bool} {t : Ty} {n : Int} {x : T t} : ∀ (l : List (Int × T t)) (i : Nat), mpI l n = none → entsM k ag t (mpP l n x) i = entsM k ag t l i ++ [(.int k n, mvV ag t x, i + l.length)] ∧ (mpP l n x).length = l.length + 1
  | [], i, _ => ⟨rfl, rfl⟩
  | p :: r, i, h => by
    simp only [mpI] at h
    simp only [mpP]
    cases hq : ieqF p.1 n with
    | true => rw [hq] at h; cases h
    | false =>
      rw [hq] at h
      simp only [cond_false, Option.map_eq_none_iff] at h
      obtain ⟨h1, h2⟩ := ents_put_new (k := k) (ag := ag) (x := x) r (i + 1) h
      simp only [cond_false, entsM, h1, List.cons_append, List.length_cons, h2]
      refine ⟨?_, trivial⟩
      rw [show i + 1 + r.length = i + (r.length + 1) by omega]
theorem ents_put_old {k : IntKind} {ag : Bool} {t : Ty} {n : Int} {x : T t} : ∀ (l : List (Int × T t)) (i s : Nat), mpI l n = some s →
    ∃ v b, (entsM k ag t l i)[s]? = some (.int k n, v, b) ∧ entsM k ag t (mpP l n x) i = (entsM k ag t l i).set s (.int k n, mvV ag t x, b) ∧ (mpP l n x).length = l.length
  | [], i, s, h => by cases h
  | p :: r, i, s, h => by
    simp only [mpI] at h
    simp only [mpP]
    cases hq : ieqF p.1 n with
    | true =>
      have h1 := ieqF_eq p.1 n
      rw [hq] at h1
      have h2 : p.1 = n := by simpa using h1.symm
      rw [hq] at h
      simp only [cond_true, Option.some.injEq] at h
      subst h
      refine ⟨mvV ag t p.2, i, ?_, rfl, rfl⟩
      simp [entsM, h2]
    | false =>
      rw [hq] at h
      simp only [cond_false, Option.map_eq_some_iff] at h
      obtain ⟨s', h1, rfl⟩ := h
      obtain ⟨v, b, e1, e2, e3⟩ := ents_put_old (k := k) (ag := ag) (x := x) r (i + 1) s' h1
      exact ⟨v, b, by simpa [entsM] using e1, by simp [entsM, e2], by simp [e3]⟩

/-- Data, as they stand. -/
def exC : (t : Ty) → List SV → Option (T t × List SV)
  | .unit, l => some ((), l)
  | .bool, l => match l with
    | .bool b :: r => some (b, r)
    | _ => none
  | .int k, l => match l with
    | .int k' n :: r => bif keqF k k' then some (n, r) else none
    | _ => none
  | .str, l => match l with
    | .str s :: r => some (s, r)
    | _ => none
  | .list t, l => match l with
    | .lst t' x false :: r => if h : t' = t then some (castL h x, r) else none
    | _ => none
  | .pair a b, l => match exC a l with
    | some (x, l1) => match exC b l1 with
      | some (y, l2) => some ((x, y), l2)
      | none => none
    | none => none
theorem exC_ok : ∀ (t : Ty) {l r : List SV} {x : T t}, exC t l = some (x, r) → l = encL t x ++ r
  | .unit, l, r, x, h => by simp only [exC] at h; cases h; rfl
  | .bool, l, r, x, h => by
    simp only [exC] at h
    split at h
    · cases h; rfl
    · cases h
  | .int k, l, r, x, h => by
    simp only [exC] at h
    split at h
    · obtain ⟨hk, h2⟩ := cond_some h
      have := keqF_eq hk
      subst this
      clear h
      cases h2
      rfl
    · cases h
  | .str, l, r, x, h => by
    simp only [exC] at h
    split at h
    · cases h; rfl
    · cases h
  | .list t, l, r, x, h => by
    simp only [exC] at h
    split at h
    · split at h
      · rename_i ht
        subst ht
        cases h; rfl
      · cases h
    · cases h
  | .pair a b, l, r, x, h => by
    simp only [exC] at h
    split at h
    case h_2 => cases h
    rename_i h1
    split at h
    case h_2 => cases h
    rename_i h2
    cases h
    rw [exC_ok a h1, exC_ok b h2]
    simp [encL]
/-- A datum of a map. -/
def exV (ag : Bool) (t : Ty) (v : SV) : Option (T t) := match ag, v with
  | true, .agg cs => match exC t cs with
    | some (x, []) => some x
    | _ => none
  | false, .agg _ => none
  | false, v => match exC t [v] with
    | some (x, []) => some x
    | _ => none
  | _, _ => none
theorem mvV_mk (ρ : Nat → Value) {ag : Bool} {t : Ty} (h : (ag || Nat.beq (sz t) 1) = true) (x : T t) : den ρ (mkV ⟨ag, t⟩ x) = mvV ag t x := by
  cases ag with
  | true => simp [mkV, mvV, encE, den, denL_map, encL_den]
  | false =>
    have h1 : sz t = 1 := Nat.eq_of_beq_eq_true (by simpa using h)
    have h2 := encL_len t x
    have h3 := encL_den ρ t x
    rw [h1] at h2
    match hl : encL t x, h2 with
    | [v], _ =>
      rw [hl] at h3
      simp [mkV, mvV, hl, mk1, ← h3]
theorem exV_ok {ag : Bool} {t : Ty} {v : SV} {x : T t} (h : exV ag t v = some x) (ρ : Nat → Value) (hs : (ag || Nat.beq (sz t) 1) = true) : den ρ v = mvV ag t x := by
  rw [← mvV_mk ρ hs x]
  unfold exV at h
  split at h
  · split at h
    · rename_i h1
      cases h
      have := exC_ok t h1
      rw [List.append_nil] at this
      subst this
      rfl
    · cases h
  · cases h
  · split at h
    · rename_i h1
      cases h
      have := exC_ok t h1
      rw [List.append_nil] at this
      simp only [mkV, cond_false, ← this]
      rfl
    · cases h
  · cases h
/-- What a map's values are. -/
def vtT (P : Program) (et : TypeId) : Option (Bool × Ty) := match undF P et, tyOf P 30 et with
  | some d, some t => some (aggD d, t)
  | _, _ => none
def isAggV : Value → Bool
  | .agg _ => true
  | _ => false
def zeroQ (P : Program) (et : TypeId) (ag : Bool) (t : Ty) : Bool := match infoF P et with
  | some i => match i.zero with
    | some z => zeroT P et t && (av z && (bif ag then isAggV z else !isAggV z && Nat.beq (sz t) 1))
    | none => false
  | none => false
theorem zeroQ_ok {et : TypeId} {ag : Bool} {t : Ty} (h : zeroQ P et ag t = true) : ∃ i z, infoF P et = some i ∧ i.zero = some z ∧ av z = true ∧ (ag || Nat.beq (sz t) 1) = true ∧ ∀ (φ : Ren) v', VRel φ z v' → VRel φ (mvV ag t (zeroD t)) v' := by
  unfold zeroQ at h
  split at h
  case h_2 => cases h
  rename_i i hi
  split at h
  case h_2 => cases h
  rename_i z hz
  simp only [Bool.and_eq_true] at h
  obtain ⟨h1, h2, h3⟩ := h
  obtain ⟨i', z', e1, e2, e3, e4, e5, e6, e7⟩ := zeroT_ok h1
  have hi2 : P.info? et = some i := by rw [← infoF_eq]; exact hi
  rw [hi2] at e1; cases e1
  rw [hz] at e2; cases e2
  cases ag with
  | true =>
    simp only [cond_true] at h3
    refine ⟨i, z, hi, hz, h2, by simp, fun φ v' hv => ?_⟩
    cases z <;> simp [isAggV] at h3
    rename_i cs
    obtain ⟨ys, rfl, hl⟩ := hv.agg_inv
    simp only [mvV, cond_true, encE]
    exact .agg' (by simpa using e7 φ ys.toList (by simpa [Value.cells] using hl))
  | false =>
    simp only [cond_false, Bool.and_eq_true, Bool.not_eq_true'] at h3
    refine ⟨i, z, hi, hz, h2, by simpa using h3.2, fun φ v' hv => ?_⟩
    have hs : sz t = 1 := Nat.eq_of_beq_eq_true h3.2
    have hc : z.cells = #[z] := by
      cases z <;> simp [isAggV] at h3 <;> rfl
    have h4 := e7 φ [v'] (by rw [hc]; exact ⟨hv, trivial⟩)
    have h5 := encC_len t (zeroD t)
    rw [hs] at h5
    simp only [mvV, cond_false]
    match hl : encC t (zeroD t), h5 with
    | [u], _ =>
      rw [hl] at h4
      exact h4.1
def isIntT (P : Program) (kt : TypeId) : Bool := match undF P kt with
  | some d => isIntD d
  | none => false
theorem isIntT_some {kt : TypeId} (h : isIntT P kt = true) : ∃ d, undF P kt = some (.int d) := by
  unfold isIntT at h
  split at h
  · rename_i d hd
    cases d <;> simp [isIntD] at h
    exact ⟨_, hd⟩
  · cases h

/-! ### make, look up, put -/
def mkMapK (P : Program) (H : SH) (nx : Nat) (t : TypeId) (k : KO R) : Option R := match undF P t with
  | some (.map kt et) => match undF P kt, vtT P et with
    | some (.int kk), some (ag, ty) => match newS H nx (.mpb kk ag ty []) with
      | some H' => k (.mp nx) H' (nx + 1)
      | none => none
    | _, _ => none
  | _ => none
theorem mkMapK_ok {rd : Option Nat} {o : Oper} {tm : List SV} {H : SH} {nx : Nat} {k : KO R} {r : R} {t : TypeId} (ho : o.op = .makeMap t none) (h : mkMapK P H nx t k = some r) : Told P rd o tm H nx k r := by
  unfold mkMapK at h
  split at h
  case h_2 => cases h
  split at h
  case h_2 => cases h
  rename_i kk ag ty _ _
  split at h
  case h_2 => cases h
  rename_i H' hn
  obtain ⟨e1, rfl⟩ := newS_some hn
  refine told (nx' := nx + 1) ⟨new_reg e1, new_lkeep e1, Nat.le_succ _, fun ν hv => ⟨new_vn hv, opOk_weak (opOk_plain (v := .map (some nx)) (H' := (nx, .mp [] 0) :: denH ν H) (nx' := nx + 1) (by unfold doOp; simp only [ho])) (fun φ v' hv => by simpa [den] using hv) (fun φ K w g => ?_)⟩⟩ h
  exact good_newS e1 (x := .mp [] 0) rfl g
def lookK (P : Program) (tm : List SV) (H : SH) (nx : Nat) (t : TypeId) (x j : Operand) (c : Bool) (k : KO R) : Option R := match sopv tm H x, sopv tm H j with
  | some (.mp b), some (.int k' n) => match sget H b, undF P t with
    | some (.mpb kk ag ty l), some (.map kt et) => bif keqF kk k' && (isIntT P kt && zeroQ P et ag ty) then
        match mkV ⟨ag, ty⟩ (mpD l n (zeroD ty)) with
        | v => k (bif c then .tup [v, .bool (mpH l n)] else v) H nx
      else none
    | _, _ => none
  | _, _ => none
theorem lookK_ok {rd : Option Nat} {o : Oper} {tm : List SV} {H : SH} {nx : Nat} {k : KO R} {r : R} {t : TypeId} {x j : Operand} {c : Bool} (ho : o.op = .lookup t x j c) (h : lookK P tm H nx t x j c k = some r) : Told P rd o tm H nx k r := by
  unfold lookK at h
  split at h
  case h_2 => cases h
  rename_i b k' n hx hj
  split at h
  case h_2 => cases h
  rename_i kk ag ty l kt et hb hu
  have h6 := cond_some h
  clear h
  obtain ⟨hh, h⟩ := h6
  simp only [Bool.and_eq_true] at hh
  obtain ⟨h1, h2, h3⟩ := hh
  have := keqF_eq h1
  subst this
  obtain ⟨d, hd⟩ := isIntT_some h2
  obtain ⟨i, z, e1, e2, e3, e4, e5⟩ := zeroQ_ok h3
  dsimp only at h
  refine told ⟨RegLe.refl H, LKeep.refl H, Nat.le_refl _, fun ν hv => ⟨hv, ?_⟩⟩ h
  have hg : (denH ν H).get b = some (.mp (entsM kk ag ty l 0) l.length) := by rw [denH_get, hb]; rfl
  have hdl : ∃ v, doLookup P (denH ν H) t (.map (some b)) (.int kk n) c = some v ∧ ∀ φ v', VRel φ v v' → VRel φ (den (rho ν H) (bif c then .tup [mkV ⟨ag, ty⟩ (mpD l n (zeroD ty)), .bool (mpH l n)] else mkV ⟨ag, ty⟩ (mpD l n (zeroD ty)))) v' := by
    unfold doLookup
    simp only [hu, hd, e1, mapOf, hg, e2, isIntD, isIntV, e3, Bool.and_self, if_true, ents_find]
    rw [mpH_I]
    cases hi : mpI l n with
    | none =>
      rw [mpD_none n _ l hi]
      simp only [Option.map_none]
      refine ⟨_, rfl, fun φ v' hv => ?_⟩
      cases c with
      | false => simpa only [Bool.false_eq_true, if_false, cond_false, mvV_mk _ e4] using e5 φ v' (by simpa using hv)
      | true =>
        simp only [if_true] at hv
        obtain ⟨ys, rfl, hl⟩ := hv.tuple_inv
        simp only [cond_true, den, denL, mvV_mk _ e4]
        refine .tuple' ?_
        match ys.toList, hl with
        | [a, b], hl => exact ⟨e5 φ a hl.1, hl.2.1, trivial⟩
        | [], hl => exact hl.elim
        | [_], hl => exact hl.2.elim
        | _ :: _ :: _ :: _, hl => exact hl.2.2.elim
    | some s =>
      simp only [Option.map_some]
      refine ⟨_, rfl, fun φ v' hv => ?_⟩
      cases c with
      | false => simpa only [Bool.false_eq_true, if_false, cond_false, mvV_mk _ e4] using hv
      | true => simpa only [if_true, cond_true, den, denL, mvV_mk _ e4, Option.isSome_some] using hv
  obtain ⟨v, f1, f2⟩ := hdl
  refine opOk_weak (opOk_plain (v := v) (H' := denH ν H) (nx' := nx) ?_) (fun φ v' hv => f2 φ v' hv) (fun φ K w g => g)
  unfold doOp
  simp only [ho, sopv_den hx ν, sopv_den hj ν, Option.bind_some, den, f1]
  rfl
def putMapK (P : Program) (tm : List SV) (H : SH) (nx : Nat) (t : TypeId) (m j x : Operand) (k : KO R) : Option R := match sopv tm H m, sopv tm H j, sopv tm H x with
  | some (.mp b), some (.int k' n), some v => match sget H b, undF P t with
    | some (.mpb kk ag ty l), some (.map kt et) => bif keqF kk k' && (isIntT P kt && (ag || Nat.beq (sz ty) 1)) then
        match exV ag ty v with
        | some y => k (.tup []) (sset H b (.mpb kk ag ty (mpP l n y))) nx
        | none => none
      else none
    | _, _ => none
  | _, _, _ => none
theorem putMapK_ok {rd : Option Nat} {o : Oper} {tm : List SV} {H : SH} {nx : Nat} {k : KO R} {r : R} {t : TypeId} {m j x : Operand} (ho : o.op = .mapUpdate t m j x ∨ o.op = .insert t m j x) (h : putMapK P tm H nx t m j x k = some r) : Told P rd o tm H nx k r := by
  unfold putMapK at h
  split at h
  case h_2 => cases h
  rename_i b k' n v hm hj hx
  split at h
  case h_2 => cases h
  rename_i kk ag ty l kt et hb hu
  have h6 := cond_some h
  clear h
  obtain ⟨hh, h⟩ := h6
  simp only [Bool.and_eq_true] at hh
  obtain ⟨h1, h2, h3⟩ := hh
  have := keqF_eq h1
  subst this
  obtain ⟨d, hd⟩ := isIntT_some h2
  split at h
  case h_2 => cases h
  rename_i y hy
  have hreg : ∀ c, reg (sget (sset H b (.mpb kk ag ty (mpP l n y))) c) = reg (sget H c) := fun c => by
    rw [sget_set]
    by_cases hc : c = b
    · subst hc; simp [hb, reg]
    · rw [if_neg hc]
  have hnn : ∀ c, notNil (sget (sset H b (.mpb kk ag ty (mpP l n y))) c) = true → notNil (sget H c) = true := fun c hc => by
    rw [sget_set] at hc
    by_cases hcb : c = b
    · subst hcb; simp [hb, notNil] at hc
    · rwa [if_neg hcb] at hc
  refine told ⟨fun c z hz => by rw [hreg c]; exact hz, lkeep_set hb (fun L => by simp), Nat.le_refl _, fun ν hv => ⟨vn_congr hreg hnn hv, ?_⟩⟩ h
  have hg : (denH ν H).get b = some (.mp (entsM kk ag ty l 0) l.length) := by rw [denH_get, hb]; rfl
  have hden := exV_ok hy (rho ν H) h3
  have hup : doMapUpd P (denH ν H) t (.map (some b)) (.int kk n) (den (rho ν H) v) = some ((denH ν H).set b (.mp (entsM kk ag ty (mpP l n y) 0) (mpP l n y).length)) := by
    unfold doMapUpd
    simp only [hu, hd, hg, isIntD, isIntV, Bool.and_self, if_true, ents_find, hden]
    cases hi : mpI l n with
    | none =>
      obtain ⟨q1, q2⟩ := ents_put_new (k := kk) (ag := ag) (x := y) l 0 hi
      simp only [Option.map_none]
      rw [q1, q2, Nat.zero_add]
    | some s =>
      obtain ⟨u, b0, q1, q2, q3⟩ := ents_put_old (k := kk) (ag := ag) (x := y) l 0 s hi
      simp only [Option.map_some, Nat.zero_add, q1]
      rw [q2, q3]
      simp [eqInt]
  refine opOk_weak (opOk_plain (v := undef) (H' := (denH ν H).set b (.mp (entsM kk ag ty (mpP l n y) 0) (mpP l n y).length)) (nx' := nx) ?_) (fun φ v' hv => by simpa [den, denL, undef] using hv) (fun φ K w g => g.sub fun c k' hc => ?_)
  · unfold doOp
    rcases ho with ho | ho <;>
    · simp only [ho, sopv_den hm ν, sopv_den hj ν, sopv_den hx ν, Option.bind_some, den, hup]
      rfl
  · rw [denH_get, sget_set, rho_congr hreg] at hc
    rw [Hp.get_set]
    by_cases hcb : c = b
    · subst hcb
      simp [hb, denB] at hc
      rw [if_pos rfl, hg]
      simp [hc]
    · rw [if_neg hcb] at hc ⊢
      rw [denH_get]; exact hc
end Go.Fz.Sy
/- The symbolic engine, part M: one operation, operations in their order. -/
noncomputable section
namespace Go.Fz.Sy
set_option linter.unusedVariables false
set_option linter.unusedSimpArgs false
variable {P : Program} {φ : Ren} {K : Nat → Prop} {w : World} {R : Type}

/-! ### Frozen arrays' slices, as lists -/
def lsS (l : List SV) (i : Nat) (v : SV) : List SV := List.rec (motive := fun _ => Nat → List SV) (fun _ => []) (fun x r ih i => Nat.rec (motive := fun _ => List SV) (v :: r) (fun m _ => x :: ih m) i) l i
theorem lsS_eq (v : SV) : ∀ (l : List SV) (i : Nat), lsS l i v = l.set i v
  | [], _ => by simp [lsS]
  | x :: l, 0 => rfl
  | x :: l, i + 1 => by
    show x :: lsS l i v = _
    rw [lsS_eq v l i]; simp
def putS (tm : List SV) (d : Option Tmp) (v : SV) : List SV := match d with
  | some d => lsS tm d v
  | none => tm
def fix1 (H : SH) (tm : List SV) : Operand → List SV
  | .tmp t => match gl tm t with
    | some (.own b) => match sget H b with
      | some (.fro _ ty l) => bif Nat.blt 0 (sz ty) then lsS tm t (.lst ty l false) else tm
      | _ => tm
    | _ => tm
  | _ => tm
def fixT (H : SH) (tm : List SV) : List Operand → List SV
  | [] => tm
  | x :: r => fixT H (fix1 H tm x) r
theorem fix1_rel {ν : Nat → Bool} {nx : Nat} {H : SH} (hv : VN ν nx H) (g : Good φ (denH ν H) K w) {tm : List SV} {x : Operand} {ts : Array Value} (ht : TRel φ (denL (rho ν H) tm) ts) : TRel φ (denL (rho ν H) (fix1 H tm x)) ts := by
  unfold fix1
  split
  case h_2 => exact ht
  rename_i t
  split
  case h_2 => exact ht
  rename_i b hb
  split
  case h_2 => exact ht
  rename_i ty l hf
  cases hs : Nat.blt 0 (sz ty) with
  | false => exact ht
  | true =>
    rw [cond_true, lsS_eq]
    rw [gl_eq] at hb
    refine ⟨by rw [← ht.1, denL_length, denL_length, List.length_set], fun i v hv2 => ?_⟩
    rw [denL_get, Option.map_eq_some_iff] at hv2
    obtain ⟨u, hu, rfl⟩ := hv2
    rw [List.getElem?_set] at hu
    by_cases hti : t = i
    · subst hti
      have hlt := (List.getElem?_eq_some_iff.1 hb).1
      simp [hlt] at hu
      subst hu
      rcases ht.2 t (den (rho ν H) (.own b)) (by rw [denL_get, hb]; rfl) with h0 | ⟨v', h1, h2⟩
      · simp only [den] at h0
        exact absurd h0 (rho_junk ν H b)
      · right
        refine ⟨v', h1, ?_⟩
        simp only [den] at h2 ⊢
        exact fro_rel g hv hf (blt_lt hs) h2
    · rw [if_neg hti] at hu
      exact ht.2 i _ (by rw [denL_get, hu]; rfl)
theorem fixT_rel {ν : Nat → Bool} {nx : Nat} {H : SH} (hv : VN ν nx H) (g : Good φ (denH ν H) K w) : ∀ {xs : List Operand} {tm : List SV} {ts : Array Value}, TRel φ (denL (rho ν H) tm) ts → TRel φ (denL (rho ν H) (fixT H tm xs)) ts
  | [], _, _, ht => ht
  | x :: r, tm, ts, ht => fixT_rel hv g (xs := r) (fix1_rel hv g ht)
theorem opOk_pre {r : Option Nat} {o : Oper} {tm tm2 : List Value} {H H2 H' : Hp} {nx nx' : Nat} {v : Value} (h : OpOk P r o tm2 H2 nx v H' nx') (hg : ∀ φ K w, Good φ H K w → Good φ H2 K w) (ht : ∀ φ K w, Good φ H K w → ∀ ts, TRel φ tm ts → TRel φ tm2 ts) : OpOk P r o tm H nx v H' nx' :=
  ⟨h.1, fun φ w K a rc next Q g hf htm hr hk => h.2 φ w K a rc next Q (hg _ _ _ g) hf (ht _ _ _ g _ htm) hr hk⟩
theorem sop_fix {rd : Option Nat} {o : Oper} {tm : List SV} {H H' : SH} {nx nx' : Nat} {v : SV} {xs : List Operand} (h : SOp P rd o (fixT H tm xs) H nx v H' nx') : SOp P rd o tm H nx v H' nx' := by
  obtain ⟨h1, h2, h3, h4⟩ := h
  refine ⟨h1, h2, h3, fun ν hv => ?_⟩
  obtain ⟨e1, e2⟩ := h4 ν hv
  exact ⟨e1, opOk_pre e2 (fun _ _ _ g => g) fun φ K w g ts ht => fixT_rel hv g ht⟩
theorem told_fix {rd : Option Nat} {o : Oper} {tm : List SV} {H : SH} {nx : Nat} {k : KO R} {r : R} {xs : List Operand} (h : Told P rd o (fixT H tm xs) H nx k r) : Told P rd o tm H nx k r := by
  obtain ⟨v, H', nx', h1, h2⟩ := h
  exact ⟨v, H', nx', sop_fix h1, h2⟩

/-! ### One operation that calls no Go function -/
def builtinK (P : Program) (tm : List SV) (H : SH) (nx : Nat) (b : Builtin) (args : Array Operand) (ats : Array TypeId) (k : KO R) : Option R := match b, args, ats with
  | .len, ⟨[x]⟩, ⟨[t]⟩ => lenK P tm H nx t x k
  | .append, ⟨[s, x]⟩, ⟨[t, u]⟩ => bif Nat.beq t u then appK P (fixT H tm [s, x]) H nx t s x k else none
  | .copy, ⟨[d, x]⟩, ⟨[t, _]⟩ => copyK P (fixT H tm [x]) H nx t d x k
  | _, _, _ => none
def sopK2 (P : Program) (tm : List SV) (H : SH) (nx : Nat) (o : Oper) (k : KO R) : Option R := match o.op with
  | .pick c a b => pickK tm H nx c a b k
  | .binOp op _ x y _ => divK tm H nx op x y k
  | .indexAddr t x i => ixAddrK P (fixT H tm [x]) H nx t x i k
  | .index t x i => indexK P tm H nx t x i k
  | .load t a => ldElK P tm H nx t a k
  | .store t a x => stElK P tm H nx t a x k
  | .slice t x lo hi mx => sliceK P (fixT H tm [x]) H nx t x lo hi mx k
  | .makeSlice t l c => makeK P tm H nx t l c k
  | .buildSlice t n ps => litK P tm H nx t n ps.toList k
  | .call { callee := .builtin b, args, argTypes } => builtinK P tm H nx b args argTypes k
  | .makeMap t none => mkMapK P H nx t k
  | .lookup t x i c => lookK P tm H nx t x i c k
  | .mapUpdate t m i x => putMapK P tm H nx t m i x k
  | .insert t m i x => putMapK P tm H nx t m i x k
  | _ => none
def sopK (P : Program) (tm : List SV) (H : SH) (nx : Nat) (o : Oper) (k : KO R) : Option R := match sop0 P tm H nx o with
  | some (v, H', nx') => k v H' nx'
  | none => sopK2 P tm H nx o k
theorem sopK_ok {rd : Option Nat} {o : Oper} {tm : List SV} {H : SH} {nx : Nat} {k : KO R} {r : R} (h : sopK P tm H nx o k = some r) : Told P rd o tm H nx k r := by
  unfold sopK at h
  split at h
  · rename_i v H' nx' h0
    exact told (sop0_ok h0) h
  · unfold sopK2 at h
    split at h
    · rename_i ho; exact pickK_ok ho h
    · rename_i ho; exact divK_ok ho h
    · rename_i ho; exact told_fix (ixAddrK_ok ho h)
    · rename_i ho; exact indexK_ok ho h
    · rename_i ho; exact ldElK_ok ho h
    · rename_i ho; exact stElK_ok ho h
    · rename_i ho; exact told_fix (sliceK_ok ho h)
    · rename_i ho; exact makeK_ok ho h
    · rename_i ho; exact litK_ok ho h
    · rename_i b args ats ho
      unfold builtinK at h
      split at h
      · exact lenK_ok ho h
      · have h6 := cond_some h
        obtain ⟨h7, h8⟩ := h6
        have := Nat.eq_of_beq_eq_true h7
        subst this
        exact told_fix (appK_ok ho h8)
      · exact told_fix (copyK_ok ho h)
      · cases h
    · rename_i ho; exact mkMapK_ok ho h
    · rename_i ho; exact lookK_ok ho h
    · rename_i ho; exact putMapK_ok (.inl ho) h
    · rename_i ho; exact putMapK_ok (.inr ho) h
    · cases h

/-! ### What code comes to -/
structure SRes where
  e : Exit
  tm : List SV
  ds : List Nat
  H : SH
  nx : Nat
abbrev KC (R : Type) := SRes → Option R
/-- The temporaries that code puts. -/
def dsts : List Oper → List Nat
  | [] => []
  | o :: r => match o.dst with
    | some d => d :: dsts r
    | none => dsts r
def asg : Code → List Nat
  | .region _ ops _ => dsts ops.toList
  | .seq a b => asg a ++ asg b
  | .cond _ a b => asg a ++ asg b
  | .block _ c => asg c
  | .loop c => asg c
  | .scope c => asg c
  | _ => []
def Same (a : List Nat) (tm tm' : List SV) : Prop := tm'.length = tm.length ∧ ∀ i, i ∉ a → tm'[i]? = tm[i]?
theorem Same.refl (a : List Nat) (tm : List SV) : Same a tm tm := ⟨rfl, fun _ _ => rfl⟩
theorem Same.trans {a b c : List Nat} {t t' t'' : List SV} (h : Same a t t') (k : Same b t' t'') (ha : ∀ i ∈ a, i ∈ c) (hb : ∀ i ∈ b, i ∈ c) : Same c t t'' :=
  ⟨k.1.trans h.1, fun i hi => (k.2 i fun e => hi (hb i e)).trans (h.2 i fun e => hi (ha i e))⟩
theorem Same.mono {a b : List Nat} {t t' : List SV} (h : Same a t t') (ha : ∀ i ∈ a, i ∈ b) : Same b t t' := ⟨h.1, fun i hi => h.2 i fun e => hi (ha i e)⟩

def denR (ν : Nat → Bool) (R : SRes) : Res := ⟨R.e, denL (rho ν R.H) R.tm, R.ds, denH ν R.H, R.nx⟩
def SCode (P : Program) (rd : Option Nat) (c : Code) (tm : List SV) (ds : List Nat) (H : SH) (nx : Nat) (R : SRes) : Prop :=
  RegLe H R.H ∧ LKeep H R.H ∧ Same (asg c) tm R.tm ∧ nx ≤ R.nx ∧ ∀ ν, VN ν nx H → VN ν R.nx R.H ∧ CodeOk P rd c (denL (rho ν H) tm) ds (denH ν H) nx (denR ν R)
def SOps (P : Program) (rd : Option Nat) (ops : Array Oper) (l : List Nat) (as : List Nat) (tm : List SV) (H : SH) (nx : Nat) (tm' : List SV) (H' : SH) (nx' : Nat) : Prop :=
  RegLe H H' ∧ LKeep H H' ∧ Same as tm tm' ∧ nx ≤ nx' ∧ ∀ ν, VN ν nx H → VN ν nx' H' ∧ OpsOk P rd ops l (denL (rho ν H) tm) (denH ν H) nx (denL (rho ν H') tm') (denH ν H') nx'

theorem putS_den (ρ : Nat → Value) (tm : List SV) (d : Option Tmp) (v : SV) : denL ρ (putS tm d v) = putT (denL ρ tm) d (den ρ v) := by
  cases d with
  | none => rfl
  | some d => rw [putT_some]; simp only [putS, lsS_eq, denL_map, List.map_set]
theorem putS_rel {ν : Nat → Bool} {H H1 : SH} (hr : RegLe H H1) {tm : List SV} {d : Option Tmp} {v : SV} {ts : Array Value} (h : TRel φ (putT (denL (rho ν H) tm) d (den (rho ν H1) v)) ts) : TRel φ (denL (rho ν H1) (putS tm d v)) ts := by
  cases d with
  | none => exact trel_reg ν hr h
  | some d =>
    rw [putT_some] at h
    rw [putS_den, putT_some]
    refine ⟨by simpa [denL_length] using h.1, fun i u hu => ?_⟩
    rw [List.getElem?_set] at hu
    by_cases hdi : d = i
    · subst hdi
      rw [if_pos rfl] at hu
      split at hu
      · cases hu
        rename_i hlt
        refine h.2 d _ ?_
        rw [List.getElem?_set, if_pos rfl, if_pos (by simpa [denL_length] using hlt)]
      · cases hu
    · rw [if_neg hdi] at hu
      rw [denL_get, Option.map_eq_some_iff] at hu
      obtain ⟨x, hx, rfl⟩ := hu
      rcases h.2 i (den (rho ν H) x) (by rw [List.getElem?_set, if_neg hdi, denL_get, hx]; rfl) with h0 | ⟨v', h1, h2⟩
      · exact .inl (den_junk (rho_junk ν H) h0)
      · exact .inr ⟨v', h1, den_mono (rho_le ν hr) x v' h2⟩
theorem putS_same (tm : List SV) (d : Option Tmp) (v : SV) : Same d.toList tm (putS tm d v) := by
  cases d with
  | none => exact Same.refl _ _
  | some d =>
    simp only [putS, lsS_eq]
    refine ⟨by simp, fun i hi => ?_⟩
    rw [List.getElem?_set, if_neg]
    simpa using fun e : d = i => hi (by simp [e])
theorem opsOk_pre {r : Option Nat} {ops : Array Oper} {l : List Nat} {tm tm2 tm' : List Value} {H H' : Hp} {nx nx' : Nat} (h : OpsOk P r ops l tm2 H nx tm' H' nx') (ht : ∀ φ ts, TRel φ tm ts → TRel φ tm2 ts) : OpsOk P r ops l tm H nx tm' H' nx' :=
  ⟨h.1, fun φ w K a rc Q g hf htm hr hk => h.2 φ w K a rc Q g hf (ht _ _ htm) hr hk⟩

/-- Whether an operation is wanted. -/
def wantK (ops : Array Oper) (tm : List SV) (o : Oper) (y n : List SV → Option R) : Option R := match o.guard with
  | none => y tm
  | some (j, want) => match gl ops.toList j with
    | some p => match p.dst with
      | some d => match gl tm d with
        | some (.bool b) => bif b then (bif want then y (lsS tm d (.bool true)) else n (lsS tm d (.bool true))) else (bif want then n (lsS tm d (.bool false)) else y (lsS tm d (.bool false)))
        | some (.tup _) => n tm
        | _ => none
      | none => none
    | none => none
theorem lsS_same {tm : List SV} {d : Nat} {v : SV} (h : tm[d]? = some v) : lsS tm d v = tm := by
  rw [lsS_eq]
  obtain ⟨h1, h2⟩ := List.getElem?_eq_some_iff.1 h
  rw [← h2]; exact List.set_getElem_self h1
theorem wantK_at {ops : Array Oper} {tm : List SV} {o : Oper} {y n : List SV → Option R} {r : R} (h : wantK ops tm o y n = some r) :
    ((∀ tmv : List Value, (∀ (i : Nat) u, tm[i]? = some u → ∃ ρ, tmv[i]? = some (den ρ u)) → wantedA ops tmv o = some true) ∧ y tm = some r) ∨ ((∀ tmv : List Value, (∀ (i : Nat) u, tm[i]? = some u → ∃ ρ, tmv[i]? = some (den ρ u)) → wantedA ops tmv o = some false) ∧ n tm = some r) := by
  unfold wantK at h
  unfold wantedA
  split at h
  · rename_i hg
    exact .inl ⟨fun tmv _ => by simp only [hg], h⟩
  · rename_i j want hg
    split at h
    case h_2 => cases h
    rename_i p hp
    split at h
    case h_2 => cases h
    rename_i d hd
    rw [gl_eq, Array.getElem?_toList] at hp
    have hj : (ops[j]?).bind (·.dst) = some d := by rw [hp]; exact hd
    split at h
    · rename_i b hb
      rw [gl_eq] at hb
      have h1 : ∀ tmv : List Value, (∀ (i : Nat) u, tm[i]? = some u → ∃ ρ, tmv[i]? = some (den ρ u)) → tmv[d]? = some (.bool b) := fun tmv hm => by
        obtain ⟨ρ, h2⟩ := hm d _ hb
        rw [h2]; simp [den]
      cases b <;> simp only [cond_true, cond_false] at h <;> rw [lsS_same hb] at h <;> cases want <;> simp only [cond_true, cond_false] at h <;> first
        | exact .inl ⟨fun tmv hm => by simp only [hg, hj, Option.bind_some, lg_eq, h1 tmv hm]; rfl, h⟩
        | exact .inr ⟨fun tmv hm => by simp only [hg, hj, Option.bind_some, lg_eq, h1 tmv hm]; rfl, h⟩
    · rename_i vs hb
      rw [gl_eq] at hb
      refine .inr ⟨fun tmv hm => ?_, h⟩
      obtain ⟨ρ, h2⟩ := hm d _ hb
      simp only [hg, hj, Option.bind_some, lg_eq, h2, den]
    · cases h
theorem wantK_some {ops : Array Oper} {tm : List SV} {o : Oper} {y n : List SV → Option R} {r : R} (h : wantK ops tm o y n = some r) : ((∀ ρ, wantedA ops (denL ρ tm) o = some true) ∧ y tm = some r) ∨ ((∀ ρ, wantedA ops (denL ρ tm) o = some false) ∧ n tm = some r) := by
  have hd : ∀ (ρ : Nat → Value) (i : Nat) (u : SV), tm[i]? = some u → ∃ ρ', (denL ρ tm)[i]? = some (den ρ' u) := fun ρ i u hu => ⟨ρ, by rw [denL_get, hu]; rfl⟩
  rcases wantK_at h with ⟨h1, h2⟩ | ⟨h1, h2⟩
  · exact .inl ⟨fun ρ => h1 _ (hd ρ), h2⟩
  · exact .inr ⟨fun ρ => h1 _ (hd ρ), h2⟩

/-- Operations in their order, each done by op. -/
def opsK (op : List SV → SH → Nat → Oper → KO R → Option R) (ops : Array Oper) : List Oper → List SV → SH → Nat → (List SV → SH → Nat → Option R) → Option R
  | [], tm, H, nx, k => k tm H nx
  | o :: l, tm, H, nx, k => wantK ops tm o
    (fun tm => op tm H nx o fun v H1 nx1 => opsK op ops l (putS tm o.dst v) H1 nx1 k)
    (fun tm => opsK op ops l (putS tm o.dst (.tup [])) H nx k)
/-- An operation's evaluation is sound. -/
def OpS (P : Program) (rd : Option Nat) (op : List SV → SH → Nat → Oper → KO R → Option R) : Prop := ∀ {tm H nx o k r}, op tm H nx o k = some r → Told P rd o tm H nx k r
theorem opsK_ok {op : List SV → SH → Nat → Oper → KO R → Option R} {rd : Option Nat} (hop : OpS P rd op) {ops : Array Oper} : ∀ {l : List Oper} {j : Nat} {tm : List SV} {H : SH} {nx : Nat} {k : List SV → SH → Nat → Option R} {r : R}, (∀ i : Nat, l[i]? = ops[j + i]?) → opsK op ops l tm H nx k = some r →
    ∃ tm' H' nx', SOps P rd ops (List.range' j l.length) (dsts l) tm H nx tm' H' nx' ∧ k tm' H' nx' = some r
  | [], j, tm, H, nx, k, r, _, h => ⟨tm, H, nx, ⟨RegLe.refl H, LKeep.refl H, Same.refl _ _, Nat.le_refl _, fun ν hv => ⟨hv, opsOk_nil⟩⟩, h⟩
  | o :: l, j, tm, H, nx, k, r, hl, h => by
    have h0 : ops[j]? = some o := by simpa using (hl 0).symm
    have hl' : ∀ i : Nat, l[i]? = ops[j + 1 + i]? := fun i => by have := hl (i + 1); simpa [Nat.add_assoc, Nat.add_comm 1 i] using this
    have hin1 : ∀ i ∈ o.dst.toList, i ∈ dsts (o :: l) := fun i hi => by
      unfold dsts
      cases hd : o.dst with
      | none => rw [hd] at hi; cases hi
      | some d => rw [hd] at hi; simp at hi; subst hi; simp
    have hin2 : ∀ i ∈ dsts l, i ∈ dsts (o :: l) := fun i hi => by
      show i ∈ (match o.dst with | some d => d :: dsts l | none => dsts l)
      cases o.dst with
      | none => exact hi
      | some d => exact List.mem_cons_of_mem _ hi
    simp only [opsK] at h
    rw [List.length_cons, List.range'_succ]
    rcases wantK_some h with ⟨hw, h1⟩ | ⟨hw, h1⟩
    · obtain ⟨v, H1, nx1, ⟨s1, s2, s3, s4⟩, h2⟩ := hop h1
      obtain ⟨tm', H', nx', ⟨t1, t2, t3, t4, t5⟩, h3⟩ := opsK_ok hop hl' h2
      refine ⟨tm', H', nx', ⟨s1.trans t1, s2.trans t2, (putS_same tm o.dst v).trans t3 hin1 hin2, Nat.le_trans s3 t4, fun ν hv => ?_⟩, h3⟩
      obtain ⟨v1, o1⟩ := s4 ν hv
      obtain ⟨v2, o2⟩ := t5 ν v1
      exact ⟨v2, opsOk_cons h0 (hw _) o1 (opsOk_pre o2 fun φ ts ht => putS_rel s1 ht)⟩
    · obtain ⟨tm', H', nx', ⟨t1, t2, t3, t4, t5⟩, h3⟩ := opsK_ok hop hl' h1
      refine ⟨tm', H', nx', ⟨t1, t2, (putS_same tm o.dst _).trans t3 hin1 hin2, t4, fun ν hv => ?_⟩, h3⟩
      obtain ⟨v2, o2⟩ := t5 ν hv
      exact ⟨v2, opsOk_skip h0 (hw _) (by rw [putS_den] at o2; simpa [den, denL, undef] using o2)⟩
end Go.Fz.Sy
/- The symbolic engine, part N: regions that draw their order. -/
noncomputable section
namespace Go.Fz.Sy
set_option linter.unusedVariables false
set_option linter.unusedSimpArgs false
variable {P : Program} {φ : Ren} {K : Nat → Prop} {w : World} {R : Type}

/-! ### Blocks of which more and less is known -/
def BMix (x0 x : Blk) : Prop := match x0, x with
  | .cells ds r, .cells cs r' => r = r' ∧ ∀ (j : Nat) v, cs[j]? = some v → ∃ u, ds[j]? = some u ∧ ∀ φ v', VRel φ u v' → VRel φ v v'
  | .loop A, .loop B => B.state = A.state ∧ B.pending = A.pending ∧ B.params = A.params ∧ B.assign = A.assign ∧ B.body = A.body ∧ B.defers = A.defers ∧ ∀ φ ts, TRel φ A.tmps.toList ts → TRel φ B.tmps.toList ts
  | a, b => a = b
theorem BMix.refl (x : Blk) : BMix x x := by
  cases x with
  | cells cs r => exact ⟨rfl, fun j v hv => ⟨v, hv, fun _ _ h => h⟩⟩
  | loop A => exact ⟨rfl, rfl, rfl, rfl, rfl, rfl, fun _ _ h => h⟩
  | _ => rfl
theorem BMix.rel {x0 x : Blk} (h : BMix x0 x) {L : Loc} (hb : BRel φ w L x0) : BRel φ w L x := by
  unfold BMix at h
  split at h
  · obtain ⟨rfl, h⟩ := h
    obtain ⟨arr, el, fr, e1, e2, e3⟩ := hb
    refine ⟨arr, el, fr, e1, fun j v hv => ?_, e3⟩
    obtain ⟨u, h1, h2⟩ := h j v hv
    obtain ⟨v', h3, h4⟩ := e2 j u h1
    exact ⟨v', h3, h2 φ v' h4⟩
  · obtain ⟨h1, h2, h3, h4, h5, h6, h7⟩ := h
    obtain ⟨l', e1, e2, e3, e4, e5, e6, e7, D, e8, e9⟩ := hb
    exact ⟨l', e1, e2.trans h1.symm, e3.trans h2.symm, h7 _ _ e4, e5.trans h3.symm, e6.trans h4.symm, e7.trans h5.symm, D, by rw [h6]; exact e8, e9⟩
  · subst h; exact hb
theorem BMix.rw {x0 x : Blk} (h : BMix x0 x) : x.rw = x0.rw := by
  unfold BMix at h
  split at h
  · obtain ⟨rfl, _⟩ := h; rfl
  · rfl
  · subst h; rfl
theorem BMix.seen {x0 x : Blk} (h : BMix x0 x) (wr : Nat → Bool) (b : Nat) : BMix (seen1 wr (fun _ => false) b x0) (seen1 wr (fun _ => false) b x) := by
  unfold seen1
  cases wr b with
  | true => simpa using h
  | false =>
    simp only [Bool.false_eq_true, if_false]
    unfold BMix at h
    split at h
    · exact ⟨rfl, h.2⟩
    · rfl
    · subst h
      exact BMix.refl _
theorem BMix.trans {x y z : Blk} (h : BMix x y) (k : BMix y z) : BMix x z := by
  cases x <;> cases y <;> simp only [BMix] at h <;> first | (cases h; done) | (cases h; exact k) | exact k | skip
  · cases z <;> simp only [BMix] at k ⊢ <;> first | (cases k; done) | skip
    obtain ⟨rfl, h⟩ := h
    obtain ⟨rfl, k⟩ := k
    refine ⟨rfl, fun j v hv => ?_⟩
    obtain ⟨u, h1, h2⟩ := k j v hv
    obtain ⟨t, h3, h4⟩ := h j u h1
    exact ⟨t, h3, fun φ v' hr => h2 φ v' (h4 φ v' hr)⟩
  · cases z <;> simp only [BMix] at k ⊢ <;> first | (cases k; done) | skip
    obtain ⟨h1, h2, h3, h4, h5, h6, h7⟩ := h
    obtain ⟨k1, k2, k3, k4, k5, k6, k7⟩ := k
    exact ⟨k1.trans h1, k2.trans h2, k3.trans h3, k4.trans h4, k5.trans h5, k6.trans h6, fun φ ts ht => k7 φ ts (h7 φ ts ht)⟩
theorem denB_mix {ρ ρ' : Nat → Value} (hρ : ∀ b, ρ b ≠ Fz.junk) (h : RLe ρ ρ') {nil : Bool} {k : SB} {x' : Blk} (hx : denB ρ' nil k = some x') : ∃ x, denB ρ nil k = some x ∧ BMix x x' := by
  have key : ∀ (cs : List SV) (ro : Bool), BMix (.cells (denL ρ cs) ro) (.cells (denL ρ' cs) ro) := fun cs ro => ⟨rfl, fun j v hv => by
    rw [denL_get, Option.map_eq_some_iff] at hv
    obtain ⟨u, hu, rfl⟩ := hv
    exact ⟨den ρ u, by rw [denL_get, hu]; rfl, fun φ v' hr => den_mono h u v' hr⟩⟩
  cases k with
  | vars cs => simp only [denB, Option.some.injEq] at hx; subst hx; exact ⟨_, rfl, key cs false⟩
  | ro cs => simp only [denB, Option.some.injEq] at hx; subst hx; exact ⟨_, rfl, key cs true⟩
  | loop L =>
    simp only [denB, Option.some.injEq] at hx; subst hx
    exact ⟨_, rfl, rfl, rfl, rfl, rfl, rfl, rfl, fun φ ts ht => by simpa [denLoop] using trel_mono hρ h (by simpa [denLoop] using ht)⟩
  | _ => exact ⟨x', hx, BMix.refl _⟩
/-- What is known of a heap by G is known by H, but for more. -/
def Mix (G H : Hp) : Prop := ∀ b x, H.get b = some x → ∃ x0, G.get b = some x0 ∧ BMix x0 x
theorem Mix.refl (H : Hp) : Mix H H := fun b x h => ⟨x, h, BMix.refl x⟩
theorem Mix.trans {F G H : Hp} (h : Mix F G) (k : Mix G H) : Mix F H := fun b x hx => by
  obtain ⟨y, h1, h2⟩ := k b x hx
  obtain ⟨z, h3, h4⟩ := h b y h1
  exact ⟨z, h3, h4.trans h2⟩
theorem Mix.good {G H : Hp} (h : Mix G H) (g : Good φ G K w) : Good φ H K w := by
  refine ⟨fun b k hb => ?_, fun b c k k' L L' hb hc hne hkr hL hL' => ?_, fun b k L hb hkr hL => ?_, g.kin, g.fz, fun b k L c M hb hkr hL hM => ?_⟩
  · obtain ⟨x, h1, h2⟩ := h b k hb
    obtain ⟨L, hL, hB⟩ := g.rel b x h1
    exact ⟨L, hL, h2.rel hB⟩
  · obtain ⟨x, h1, h2⟩ := h b k hb
    obtain ⟨y, h3, _⟩ := h c k' hc
    exact g.sep b c x y L L' h1 h3 hne (by rw [← h2.rw]; exact hkr) hL hL'
  · obtain ⟨x, h1, h2⟩ := h b k hb
    exact g.prot b x L h1 (by rw [← h2.rw]; exact hkr) hL
  · obtain ⟨x, h1, h2⟩ := h b k hb
    exact g.fsep b x L c M h1 (by rw [← h2.rw]; exact hkr) hL hM
theorem mix_rho {ν : Nat → Bool} {ρ ρ' : Nat → Value} (hρ : ∀ b, ρ b ≠ Fz.junk) (h : RLe ρ ρ') (H : SH) : Mix (denHr ν ρ H) (denHr ν ρ' H) := fun b x hx => by
  rw [denHr_get, Option.bind_eq_some_iff] at hx
  obtain ⟨k, hk, hx⟩ := hx
  obtain ⟨y, h1, h2⟩ := denB_mix hρ h hx
  exact ⟨y, by rw [denHr_get, hk]; exact h1, h2⟩

/-! ### Views -/
def roS : SB → SB
  | .vars cs => .ro cs
  | .arr nn t l => .roa nn t l
  | .loop _ => .hid
  | .defd => .hid
  | .mpb _ _ _ _ => .hid
  | k => k
def hidS : SB → SB
  | .arr nn t l => .gone (rsz nn t l) l.length
  | .roa nn t l => .gone (rsz nn t l) l.length
  | .fro nn t l => .gone (rsz nn t l) l.length
  | .gone s n => .gone s n
  | _ => .abs
def memB (l : List Nat) (b : Nat) : Bool := List.rec (motive := fun _ => Bool) false (fun x _ ih => bif Nat.beq x b then true else ih) l
def seeS (vis wr : List Nat) (b : Nat) (k : SB) : SB := bif memB vis b then (bif memB wr b then k else roS k) else hidS k
def viewS (vis wr : List Nat) : SH → SH
  | [] => []
  | (b, k) :: r => (b, seeS vis wr b k) :: viewS vis wr r
theorem viewS_get (vis wr : List Nat) (n : Nat) : ∀ H : SH, sget (viewS vis wr H) n = (sget H n).map (seeS vis wr n)
  | [] => rfl
  | (b, k) :: r => by
    simp only [viewS, sget_cons]
    by_cases hb : b = n
    · subst hb; simp
    · rw [if_neg hb, if_neg hb]; exact viewS_get vis wr n r
theorem reg_see (vis wr : List Nat) (b : Nat) (k : Option SB) : reg (k.map (seeS vis wr b)) = reg k := by
  cases k with
  | none => rfl
  | some k =>
    simp only [Option.map_some, seeS]
    cases memB vis b <;> cases memB wr b <;> cases k <;> first | rfl | exact reg_gone _ _ _
theorem notNil_see (vis wr : List Nat) (b : Nat) (k : Option SB) (h : notNil (k.map (seeS vis wr b)) = true) : notNil k = true := by
  cases k with
  | none => exact h
  | some k =>
    simp only [Option.map_some, seeS] at h
    cases hv : memB vis b <;> cases hw : memB wr b <;> rw [hv, hw] at h <;> cases k <;> simp_all [notNil, hidS, roS]
theorem rho_view (ν : Nat → Bool) (vis wr : List Nat) (H : SH) : rho ν (viewS vis wr H) = rho ν H := rho_congr (fun c => by rw [viewS_get, reg_see]) ν
theorem vn_view {ν : Nat → Bool} {nx : Nat} {vis wr : List Nat} {H : SH} (h : VN ν nx H) : VN ν nx (viewS vis wr H) := vn_congr (fun c => by rw [viewS_get, reg_see]) (fun c hc => notNil_see vis wr c _ (by rw [← viewS_get]; exact hc)) h
/-- A view of a heap of which more is known. -/
theorem view_mix {ν : Nat → Bool} {vis wr : List Nat} {H : SH} {G : Hp} (hm : Mix G (denH ν H)) (wr' : Nat → Bool) (hw : ∀ b, wr' b = (memB wr b && (G.get b).isSome)) :
    Mix (Hp.only (memB vis) (mkView wr' (fun _ => false) G)) (denH ν (viewS vis wr H)) := fun b x hx => by
  rw [denH_get, viewS_get, rho_view] at hx
  cases hk : sget H b with
  | none => rw [hk] at hx; cases hx
  | some k =>
    rw [hk] at hx
    simp only [Option.map_some, Option.bind_some, seeS] at hx
    cases hv : memB vis b with
    | false =>
      rw [hv, cond_false] at hx
      cases k <;> simp [hidS, denB] at hx
    | true =>
      rw [hv, cond_true] at hx
      have hget : (Hp.only (memB vis) (mkView wr' (fun _ => false) G)).get b = (G.get b).map (seen1 wr' (fun _ => false) b) := by
        rw [Hp.get_only, hv, if_pos rfl, mkView_get]
      have hH : ∀ y, denB (rho ν H) (ν b) k = some y → ∃ y0, G.get b = some y0 ∧ BMix y0 y := fun y hy => hm b y (by rw [denH_get, hk]; exact hy)
      cases hwb : memB wr b with
      | true =>
        rw [hwb, cond_true] at hx
        obtain ⟨y0, h1, h2⟩ := hH x hx
        refine ⟨y0, ?_, h2⟩
        rw [hget, h1]
        have : wr' b = true := by rw [hw b, hwb, h1]; rfl
        simp [seen1, this]
      | false =>
        rw [hwb, cond_false] at hx
        have hwf : wr' b = false := by rw [hw b, hwb]; rfl
        have hs : ∃ y, denB (rho ν H) (ν b) k = some y ∧ seen1 wr' (fun _ => false) b y = x := by
          cases k with
          | vars cs => simp only [roS, denB, Option.some.injEq] at hx; exact ⟨_, rfl, by subst hx; simp [seen1, hwf]⟩
          | ro cs => simp only [roS, denB, Option.some.injEq] at hx; exact ⟨_, rfl, by subst hx; simp [seen1, hwf]⟩
          | arr nn t l =>
            simp only [roS, denB] at hx ⊢
            cases hnb : nilA nn l with
            | true => rw [hnb] at hx; cases hx
            | false => rw [hnb] at hx; simp only [cond_false, Option.some.injEq] at hx; exact ⟨_, rfl, by subst hx; simp [seen1, hwf]⟩
          | roa nn t l =>
            simp only [roS, denB] at hx ⊢
            cases hnb : nilA nn l with
            | true => rw [hnb] at hx; cases hx
            | false => rw [hnb] at hx; simp only [cond_false, Option.some.injEq] at hx; exact ⟨_, rfl, by subst hx; simp [seen1, hwf]⟩
          | fro nn t l =>
            simp only [roS, denB] at hx ⊢
            cases hnb : nilA nn l with
            | true => rw [hnb] at hx; cases hx
            | false => rw [hnb] at hx; simp only [cond_false, Option.some.injEq] at hx; exact ⟨_, rfl, by subst hx; simp [seen1, hwf]⟩
          | gone s n => simp [roS, denB] at hx
          | loop L => simp only [roS, denB, Option.some.injEq] at hx; exact ⟨_, rfl, by subst hx; simp [seen1, hwf]⟩
          | defd => simp only [roS, denB, Option.some.injEq] at hx; exact ⟨_, rfl, by subst hx; simp [seen1, hwf]⟩
          | hid => simp only [roS, denB, Option.some.injEq] at hx; exact ⟨_, rfl, by subst hx; simp [seen1, hwf]⟩
          | mpb k ag t l => simp only [roS, denB, Option.some.injEq] at hx; exact ⟨_, rfl, by subst hx; simp [seen1, hwf]⟩
          | abs => simp [roS, denB] at hx
        obtain ⟨y, h1, h2⟩ := hs
        obtain ⟨y0, h3, h4⟩ := hH y h1
        refine ⟨seen1 wr' (fun _ => false) b y0, by rw [hget, h3]; rfl, ?_⟩
        rw [← h2]
        exact h4.seen wr' b
end Go.Fz.Sy
/- The symbolic engine, part O: the evaluation of a region that draws its order. -/
noncomputable section
namespace Go.Fz.Sy
set_option linter.unusedVariables false
set_option linter.unusedSimpArgs false
variable {P : Program} {φ : Ren} {K : Nat → Prop} {w : World} {R : Type}

structure SStp where
  ran : Bool
  vis : List Nat
  wr : List Nat
  lo : Nat
  hi : Nat
def gj (tm : List SV) (s : Nat) : SV := match gl tm s with
  | some v => v
  | none => .junk
def keepS (tm : List SV) : List Nat → List SV → List SV
  | [], t => t
  | s :: r, t => keepS tm r (lsS t s (gj tm s))
def touchS (wr : List Nat) (lo hi : Nat) (b : Nat) : Bool := memB wr b || (Nat.ble lo b && Nat.blt b hi)
/-- Behind an operation, frozen arrays that it turned are forgotten. -/
def dropF (wr : List Nat) (lo hi : Nat) : SH → SH
  | [] => []
  | (b, k) :: r => (b, bif touchS wr lo hi b then (match k with | .fro nn t l => .gone (rsz nn t l) l.length | k => k) else k) :: dropF wr lo hi r
def pickT (wr : List Nat) (lo hi : Nat) : SH → SH
  | [] => []
  | (b, k) :: r => bif touchS wr lo hi b then (b, k) :: pickT wr lo hi r else pickT wr lo hi r
def restT (wr : List Nat) (lo hi : Nat) : SH → SH
  | [] => []
  | (b, k) :: r => bif touchS wr lo hi b then restT wr lo hi r else (b, k) :: restT wr lo hi r
def mergeS (wr : List Nat) (lo hi : Nat) (H1 H : SH) : SH := pickT wr lo hi H1 ++ restT wr lo hi H
/-- The turned blocks are ours to turn; no array comes from nowhere; the names were free. -/
def rwK : SB → Bool
  | .ro _ => false
  | .roa _ _ _ => false
  | .fro _ _ _ => false
  | .hid => false
  | _ => true
def okT (wr : List Nat) (lo hi : Nat) (H : SH) : SH → Bool
  | [] => true
  | (b, k) :: r => (bif touchS wr lo hi b then rwK k else match reg (some k) with | none => true | some _ => (reg (sget H b)).isSome) && okT wr lo hi H r
def freeR (lo hi : Nat) : SH → Bool
  | [] => true
  | (b, _) :: r => !(Nat.ble lo b && Nat.blt b hi) && freeR lo hi r
/-- What may be turned is there. -/
def okW (H : SH) : List Nat → Bool
  | [] => true
  | b :: r => (match sget H b with
    | some (.gone _ _) => false
    | some .abs => false
    | none => false
    | _ => true) && okW H r
def quiet (wr : List Nat) (lo hi : Nat) : Bool := (match wr with | [] => true | _ => false) && Nat.beq lo hi
/-- The state behind an operation that saw a view. -/
def behind (wr : List Nat) (lo hi : Nat) (H1 H : SH) : Option SH := match dropF wr lo hi H1 with
  | H2 => bif okT wr lo hi H H2 && (freeR lo hi H && okW H wr) then some (bif quiet wr lo hi then H else mergeS wr lo hi H2 H) else none
def subB (vis : List Nat) : List Nat → Bool
  | [] => true
  | b :: r => memB vis b && subB vis r
theorem subB_mem {vis : List Nat} {b : Nat} : ∀ {wr : List Nat}, subB vis wr = true → memB wr b = true → memB vis b = true
  | [], _, h => by cases h
  | c :: r, hs, h => by
    simp only [subB, Bool.and_eq_true] at hs
    have h : (bif Nat.beq c b then true else memB r b) = true := h
    cases hb : Nat.beq c b with
    | true => have := Nat.eq_of_beq_eq_true hb; subst this; exact hs.1
    | false => rw [hb] at h; exact subB_mem hs.2 h
def drawK (op : List SV → SH → Nat → Oper → KO R → Option R) (ops : Array Oper) (cut : Nat → List SV → SH → List SStp → Option (List Nat × List Nat)) : Nat → List SStp → List Oper → List SV → SH → Nat → (List SStp → List SV → SH → Nat → Option R) → Option R
  | _, done, [], tm, H, nx, k => k done.reverse tm H nx
  | i, done, o :: l, tm, H, nx, k => wantK ops tm o
    (fun tm => match cut i tm H done with
      | some (wr, vis) => bif subB vis wr then op (keepS tm (slotsOf ops o) (List.replicate tm.length .junk)) (viewS vis wr H) nx o fun v H1 nx1 => match behind wr nx nx1 H1 H with
        | some H2 => drawK op ops cut (i + 1) (⟨true, vis, wr, nx, nx1⟩ :: done) l (putS tm o.dst v) H2 nx1 k
        | none => none
        else none
      | none => none)
    (fun tm => drawK op ops cut (i + 1) (⟨false, [], [], nx, nx⟩ :: done) l (putS tm o.dst (.tup [])) H nx k)

/-! ### What stands behind an operation -/
theorem dropF_get (wr : List Nat) (lo hi n : Nat) : ∀ H : SH, sget (dropF wr lo hi H) n = (sget H n).map fun k => bif touchS wr lo hi n then (match k with | .fro nn t l => .gone (rsz nn t l) l.length | k => k) else k
  | [] => rfl
  | (b, k) :: r => by
    simp only [dropF, sget_cons]
    by_cases hb : b = n
    · subst hb; simp
    · rw [if_neg hb, if_neg hb]; exact dropF_get wr lo hi n r
theorem pickT_get (wr : List Nat) (lo hi n : Nat) : ∀ H : SH, sget (pickT wr lo hi H) n = bif touchS wr lo hi n then sget H n else none
  | [] => by simp [pickT, sget_nil]
  | (b, k) :: r => by
    have ih := pickT_get wr lo hi n r
    simp only [pickT, sget_cons]
    cases hb : touchS wr lo hi b with
    | true =>
      simp only [cond_true, sget_cons]
      by_cases h : b = n
      · subst h; simp [hb]
      · simp only [h, if_false]; exact ih
    | false =>
      simp only [cond_false]
      by_cases h : b = n
      · subst h; rw [hb] at ih ⊢; simpa using ih
      · simp only [h, if_false]; exact ih
theorem restT_get (wr : List Nat) (lo hi n : Nat) : ∀ H : SH, sget (restT wr lo hi H) n = bif touchS wr lo hi n then none else sget H n
  | [] => by simp [restT, sget_nil]
  | (b, k) :: r => by
    have ih := restT_get wr lo hi n r
    simp only [restT, sget_cons]
    cases hb : touchS wr lo hi b with
    | true =>
      simp only [cond_true]
      by_cases h : b = n
      · subst h; rw [hb] at ih ⊢; simpa using ih
      · simp only [h, if_false]; exact ih
    | false =>
      simp only [cond_false, sget_cons]
      by_cases h : b = n
      · subst h; simp [hb]
      · simp only [h, if_false]; exact ih
theorem sget_append (n : Nat) : ∀ H G : SH, sget (H ++ G) n = (match sget H n with | some k => some k | none => sget G n)
  | [], G => by simp [sget_nil]
  | (b, k) :: r, G => by
    have ih := sget_append n r G
    simp only [List.cons_append, sget_cons]
    by_cases h : b = n
    · subst h; simp
    · simp only [h, if_false]; exact ih
theorem mergeS_get (wr : List Nat) (lo hi n : Nat) (H1 H : SH) : sget (mergeS wr lo hi H1 H) n = bif touchS wr lo hi n then sget H1 n else sget H n := by
  unfold mergeS
  rw [sget_append, pickT_get, restT_get]
  cases touchS wr lo hi n with
  | true => simp only [cond_true]; cases sget H1 n <;> rfl
  | false => simp
theorem quiet_touch {wr : List Nat} {lo hi : Nat} (h : quiet wr lo hi = true) (b : Nat) : touchS wr lo hi b = false := by
  unfold quiet at h
  simp only [Bool.and_eq_true] at h
  obtain ⟨h1, h2⟩ := h
  have h2 := Nat.eq_of_beq_eq_true h2
  subst h2
  cases wr with
  | nil =>
    simp only [touchS, memB, Bool.false_or, Bool.and_eq_false_iff]
    by_cases hb : lo ≤ b
    · right
      rw [blt_dec]; simp; omega
    · left
      cases hc : Nat.ble lo b with
      | false => rfl
      | true => exact absurd (Nat.le_of_ble_eq_true hc) hb
  | cons x r => cases h1
theorem behind_get {wr : List Nat} {lo hi : Nat} {H1 H H2 : SH} (h : behind wr lo hi H1 H = some H2) (n : Nat) : sget H2 n = bif touchS wr lo hi n then sget (dropF wr lo hi H1) n else sget H n := by
  unfold behind at h
  dsimp only at h
  obtain ⟨_, h2⟩ := cond_some h
  cases h2
  cases hq : quiet wr lo hi with
  | true => simp [quiet_touch hq n]
  | false => simp only [cond_false]; exact mergeS_get ..
theorem behind_cond {wr : List Nat} {lo hi : Nat} {H1 H H2 : SH} (h : behind wr lo hi H1 H = some H2) : okT wr lo hi H (dropF wr lo hi H1) = true ∧ freeR lo hi H = true ∧ okW H wr = true := by
  unfold behind at h
  dsimp only at h
  obtain ⟨h1, _⟩ := cond_some h
  simpa using h1
theorem okT_get {wr : List Nat} {lo hi : Nat} {H : SH} {b : Nat} {k : SB} : ∀ {H1 : SH}, okT wr lo hi H H1 = true → sget H1 b = some k → (touchS wr lo hi b = true → rwK k = true) ∧ (touchS wr lo hi b = false → (reg (some k)).isSome = true → (reg (sget H b)).isSome = true)
  | [], _, h => by cases h
  | (c, x) :: r, ho, h => by
    simp only [okT, Bool.and_eq_true] at ho
    rw [sget_cons] at h
    by_cases hc : c = b
    · subst hc
      rw [if_pos rfl] at h
      cases h
      have h1 := ho.1
      constructor
      · intro ht; rw [ht] at h1; exact h1
      · intro ht hr
        rw [ht, cond_false] at h1
        split at h1
        · rename_i hn; rw [hn] at hr; cases hr
        · exact h1
    · rw [if_neg hc] at h
      exact okT_get ho.2 h
theorem freeR_get {lo hi b : Nat} {k : SB} : ∀ {H : SH}, freeR lo hi H = true → sget H b = some k → ¬ (lo ≤ b ∧ b < hi)
  | [], _, h => by cases h
  | (c, x) :: r, hf, h => by
    simp only [freeR, Bool.and_eq_true, Bool.not_eq_true', Bool.and_eq_false_iff] at hf
    rw [sget_cons] at h
    by_cases hc : c = b
    · subst hc
      rintro ⟨h1, h2⟩
      rcases hf.1 with h3 | h3
      · have := Nat.ble_eq_true_of_le h1; rw [h3] at this; cases this
      · rw [blt_dec, decide_eq_false_iff_not] at h3; exact h3 h2
    · rw [if_neg hc] at h
      exact freeR_get hf.2 h
theorem touchS_iff {wr : List Nat} {lo hi b : Nat} : touchS wr lo hi b = true ↔ memB wr b = true ∨ (lo ≤ b ∧ b < hi) := by
  simp only [touchS, Bool.or_eq_true, Bool.and_eq_true, blt_dec, decide_eq_true_eq, Nat.ble_eq]
theorem reg_drop (wr : List Nat) (lo hi b : Nat) (k : Option SB) : reg (k.map fun k => bif touchS wr lo hi b then (match k with | .fro nn t l => .gone (rsz nn t l) l.length | k => k) else k) = reg k := by
  cases k with
  | none => rfl
  | some k => simp only [Option.map_some]; cases touchS wr lo hi b <;> cases k <;> first | rfl | exact reg_gone _ _ _
theorem nn_drop (wr : List Nat) (lo hi b : Nat) (k : Option SB) : notNil (k.map fun k => bif touchS wr lo hi b then (match k with | .fro nn t l => .gone (rsz nn t l) l.length | k => k) else k) = notNil k := by
  cases k with
  | none => rfl
  | some k => simp only [Option.map_some]; cases touchS wr lo hi b <;> cases k <;> rfl
structure Behind (vis wr : List Nat) (lo hi : Nat) (V1 H H2 : SH) : Prop where
  reg : RegLe H H2
  keep : LKeep H H2
  vn : ∀ ν nx nx', VN ν nx H → VN ν nx' V1 → nx ≤ nx' → VN ν nx' H2
  rho : ∀ ν, RLe (Sy.rho ν V1) (Sy.rho ν H2)
theorem behind_ok {vis wr : List Nat} {lo hi : Nat} {V1 H H2 : SH} (hr : RegLe (viewS vis wr H) V1) (hk : LKeep (viewS vis wr H) V1) (hvis : ∀ b, memB wr b = true → memB vis b = true) (h : behind wr lo hi V1 H = some H2) : Behind vis wr lo hi V1 H H2 := by
  have hg := fun n => behind_get h n
  have hc := behind_cond h
  have hreg2 : ∀ b, touchS wr lo hi b = true → Sy.reg (sget H2 b) = Sy.reg (sget V1 b) := fun b hb => by rw [hg b, hb, cond_true, dropF_get, reg_drop]
  have hregH : RegLe H H2 := fun b x hx => by
    cases ht : touchS wr lo hi b with
    | false => rw [hg b, ht]; exact hx
    | true => rw [hreg2 b ht]; exact hr b x (by rw [viewS_get, reg_see]; exact hx)
  refine ⟨hregH, fun l L hl => ?_, fun ν nx nx' hv hv1 hle => ⟨fun b n hb => ?_, hv1.old, fun b hb => ?_⟩, fun ν b => ?_⟩
  · cases ht : touchS wr lo hi l with
    | false => exact ⟨L.st, L.pend, by rw [hg l, ht]; exact hl⟩
    | true =>
      have hw : memB wr l = true := by
        rcases touchS_iff.1 ht with h1 | h1
        · exact h1
        · exact absurd h1 (freeR_get hc.2.1 hl)
      obtain ⟨s, p, h1⟩ := hk l L (by rw [viewS_get, hl]; simp [seeS, hw, hvis l hw])
      exact ⟨s, p, by rw [hg l, ht, cond_true, dropF_get, h1, ht]; rfl⟩
  · cases ht : touchS wr lo hi b with
    | false => rw [hg b, ht] at hb; exact hv.empty b n hb
    | true => rw [hreg2 b ht] at hb; exact hv1.empty b n hb
  · cases ht : touchS wr lo hi b with
    | false => rw [hg b, ht] at hb; exact hv.nn b hb
    | true => rw [hg b, ht, cond_true, dropF_get, nn_drop] at hb; exact hv1.nn b hb
  · unfold Sy.rho
    cases hx : Sy.reg (sget V1 b) with
    | none => exact .inl rfl
    | some x =>
      right
      cases ht : touchS wr lo hi b with
      | true => rw [hreg2 b ht, hx]
      | false =>
        have h1 : Sy.reg (sget (dropF wr lo hi V1) b) = some x := by rw [dropF_get, reg_drop]; exact hx
        cases hd : sget (dropF wr lo hi V1) b with
        | none => rw [hd] at h1; cases h1
        | some k =>
          have h2 := (okT_get hc.1 hd).2 ht (by rw [← hd, h1]; rfl)
          obtain ⟨y, hy⟩ := Option.isSome_iff_exists.1 h2
          have h3 := hr b y (by rw [viewS_get, reg_see]; exact hy)
          rw [hx] at h3
          cases h3
          rw [hregH b _ hy]
end Go.Fz.Sy
/- The symbolic engine, part OB: a region that draws its order comes to what its evaluation says. -/
noncomputable section
namespace Go.Fz.Sy
set_option linter.unusedVariables false
set_option linter.unusedSimpArgs false
variable {P : Program} {φ : Ren} {K : Nat → Prop} {w : World} {R : Type}

theorem RLe.trans {a b c : Nat → Value} (h : RLe a b) (k : RLe b c) : RLe a c := fun n => by
  rcases h n with h1 | h1
  · exact .inl h1
  · rcases k n with k1 | k1
    · exact .inl (h1 ▸ k1)
    · exact .inr (k1.trans h1)
/-- Temporaries of which more is known, one here and one there. -/
def TMix (ν : Nat → Bool) (H : SH) (tmv : List Value) (tm : List SV) : Prop := tmv.length = tm.length ∧ ∀ (i : Nat) u, tm[i]? = some u → ∃ ρ, (∀ b, ρ b ≠ Fz.junk) ∧ RLe ρ (rho ν H) ∧ tmv[i]? = some (den ρ u)
theorem TMix.refl (ν : Nat → Bool) (H : SH) (tm : List SV) : TMix ν H (denL (rho ν H) tm) tm := ⟨denL_length _ _, fun i u hu => ⟨rho ν H, rho_junk ν H, RLe.refl _, by rw [denL_get, hu]; rfl⟩⟩
theorem TMix.mono {ν : Nat → Bool} {H H2 : SH} {tmv : List Value} {tm : List SV} (h : TMix ν H tmv tm) (hr : RLe (rho ν H) (rho ν H2)) : TMix ν H2 tmv tm := ⟨h.1, fun i u hu => by
  obtain ⟨ρ, h1, h2, h3⟩ := h.2 i u hu
  exact ⟨ρ, h1, h2.trans hr, h3⟩⟩
theorem TMix.put {ν : Nat → Bool} {H : SH} {tmv : List Value} {tm : List SV} (h : TMix ν H tmv tm) {ρ : Nat → Value} (hj : ∀ b, ρ b ≠ Fz.junk) (hr : RLe ρ (rho ν H)) (d : Option Tmp) (v : SV) : TMix ν H (putT tmv d (den ρ v)) (putS tm d v) := by
  cases d with
  | none => exact h
  | some d =>
    rw [putT_some]
    simp only [putS, lsS_eq]
    refine ⟨by simp [h.1], fun i u hu => ?_⟩
    rw [List.getElem?_set] at hu ⊢
    by_cases hdi : d = i
    · subst hdi
      rw [if_pos rfl] at hu ⊢
      split at hu
      · rename_i hlt
        cases hu
        exact ⟨ρ, hj, hr, by rw [if_pos (by rw [h.1]; exact hlt)]⟩
      · cases hu
    · rw [if_neg hdi] at hu ⊢
      exact h.2 i u hu
theorem TMix.rel {ν : Nat → Bool} {H : SH} {tmv : List Value} {tm : List SV} (h : TMix ν H tmv tm) {ts : Array Value} (ht : TRel φ tmv ts) : TRel φ (denL (rho ν H) tm) ts := by
  refine ⟨by rw [denL_length, ← h.1]; exact ht.1, fun i v hv => ?_⟩
  rw [denL_get, Option.map_eq_some_iff] at hv
  obtain ⟨u, hu, rfl⟩ := hv
  obtain ⟨ρ, h1, h2, h3⟩ := h.2 i u hu
  rcases ht.2 i _ h3 with h0 | ⟨v', e1, e2⟩
  · exact .inl (den_junk h1 h0)
  · exact .inr ⟨v', e1, den_mono h2 u v' e2⟩
theorem keepS_get (tm : List SV) : ∀ (sl : List Nat) (t : List SV), (keepS tm sl t).length = t.length ∧ ∀ (i : Nat), t.length = tm.length → ((i ∈ sl → (keepS tm sl t)[i]? = tm[i]?) ∧ (i ∉ sl → (keepS tm sl t)[i]? = t[i]?) ∧ (t[i]? = tm[i]? → (keepS tm sl t)[i]? = tm[i]?))
  | [], t => ⟨rfl, fun i _ => ⟨(fun h => by cases h), fun _ => rfl, fun h => h⟩⟩
  | s :: r, t => by
    obtain ⟨h1, h2⟩ := keepS_get tm r (lsS t s (gj tm s))
    rw [lsS_eq] at h1 h2
    simp only [keepS, lsS_eq]
    refine ⟨by rw [h1]; simp, fun i hl => ?_⟩
    obtain ⟨e1, e2, e3⟩ := h2 i (by simpa using hl)
    have hs : (t.set s (gj tm s))[s]? = tm[s]? := by
      unfold gj
      rw [gl_eq, List.getElem?_set]
      by_cases hlt : s < t.length
      · rw [if_pos rfl, if_pos hlt]
        have : s < tm.length := by omega
        simp [this]
      · rw [if_pos rfl, if_neg hlt]
        rw [List.getElem?_eq_none (by omega)]
    have hst : t[i]? = tm[i]? → (t.set s (gj tm s))[i]? = tm[i]? := fun h => by
      by_cases hsi : s = i
      · subst hsi; exact hs
      · rw [List.getElem?_set, if_neg hsi]; exact h
    refine ⟨fun hi => ?_, fun hi => ?_, fun h => e3 (hst h)⟩
    · rcases List.mem_cons.1 hi with rfl | hi
      · exact e3 hs
      · exact e1 hi
    · simp only [List.mem_cons, not_or] at hi
      rw [e2 hi.2, List.getElem?_set, if_neg (fun e => hi.1 e.symm)]
theorem TMix.keep {ν : Nat → Bool} {H : SH} {tmv : List Value} {tm : List SV} (h : TMix ν H tmv tm) (sl : List Nat) : TMix ν H (keepT tmv sl) (keepS tm sl (List.replicate tm.length .junk)) := by
  obtain ⟨k1, k2⟩ := keepS_get tm sl (List.replicate tm.length .junk)
  have k3 := (keepT_get (tm := tmv) (slots := sl)).1
  refine ⟨by rw [k3, k1, h.1]; simp, fun i u hu => ?_⟩
  obtain ⟨e1, e2, _⟩ := k2 i (by simp)
  by_cases hi : i ∈ sl
  · rw [e1 hi] at hu
    rw [keepT_at hi]
    exact h.2 i u hu
  · rw [e2 hi, List.getElem?_replicate] at hu
    split at hu
    · rename_i hlt
      cases hu
      refine ⟨rho ν H, rho_junk ν H, RLe.refl _, ?_⟩
      have hl : i < (keepT tmv sl).length := by rw [k3, h.1]; exact hlt
      have hx : (keepT tmv sl)[i]? = some (keepT tmv sl)[i] := by simp [hl]
      rcases (keepT_get (tm := tmv) (slots := sl)).2 i _ hx with h0 | ⟨h0, _⟩
      · rw [hx, h0]; simp [den]
      · exact absurd h0 hi
    · cases hu
theorem TMix.any {ν : Nat → Bool} {H : SH} {tmv : List Value} {tm : List SV} (h : TMix ν H tmv tm) : ∀ (i : Nat) u, tm[i]? = some u → ∃ ρ, tmv[i]? = some (den ρ u) := fun i u hu => by
  obtain ⟨ρ, _, _, h3⟩ := h.2 i u hu
  exact ⟨ρ, h3⟩

theorem denHr_mem {ν : Nat → Bool} {ρ : Nat → Value} {b : Nat} {x : Blk} : ∀ {H : SH}, (b, x) ∈ denHr ν ρ H → ∃ k, (b, k) ∈ H ∧ denB ρ (ν b) k = some x
  | [], h => by cases h
  | (c, k) :: r, h => by
    have hdel : ∀ (G : Hp) (y : Nat × Blk), y ∈ G.del c → y ∈ G := by
      intro G y hy
      induction G with
      | nil => cases hy
      | cons z G ih =>
        obtain ⟨d, u⟩ := z
        simp only [Hp.del] at hy
        split at hy
        · exact List.mem_cons_of_mem _ (ih hy)
        · rcases List.mem_cons.1 hy with rfl | hy
          · simp
          · exact List.mem_cons_of_mem _ (ih hy)
    simp only [denHr] at h
    split at h
    · rename_i y hy
      rcases List.mem_cons.1 h with h | h
      · cases h; exact ⟨k, by simp, hy⟩
      · obtain ⟨k', h1, h2⟩ := denHr_mem h
        exact ⟨k', List.mem_cons_of_mem _ h1, h2⟩
    · obtain ⟨k', h1, h2⟩ := denHr_mem (hdel _ _ h)
      exact ⟨k', List.mem_cons_of_mem _ h1, h2⟩
theorem okT_mem {wr : List Nat} {lo hi : Nat} {H : SH} {b : Nat} {k : SB} : ∀ {H1 : SH}, okT wr lo hi H H1 = true → (b, k) ∈ H1 → touchS wr lo hi b = true → rwK k = true
  | [], _, h, _ => by cases h
  | (c, x) :: r, ho, h, ht => by
    simp only [okT, Bool.and_eq_true] at ho
    rcases List.mem_cons.1 h with h | h
    · cases h; have h1 := ho.1; rw [ht] at h1; exact h1
    · exact okT_mem ho.2 h ht
theorem allRw_of : ∀ {H : Hp}, (∀ b x, (b, x) ∈ H → x.rw = true) → allRw H = true
  | [], _ => rfl
  | (b, x) :: r, h => by
    simp only [allRw, h b x (by simp), Bool.true_and]
    exact allRw_of fun c y hy => h c y (List.mem_cons_of_mem _ hy)
theorem only_mem {p : Nat → Bool} {b : Nat} {x : Blk} : ∀ {H : Hp}, (b, x) ∈ Hp.only p H → p b = true ∧ (b, x) ∈ H
  | [], h => by cases h
  | (c, y) :: r, h => by
    simp only [Hp.only] at h
    split at h
    · rename_i hp
      rcases List.mem_cons.1 h with h | h
      · cases h; exact ⟨hp, by simp⟩
      · exact ⟨(only_mem h).1, List.mem_cons_of_mem _ (only_mem h).2⟩
    · exact ⟨(only_mem h).1, List.mem_cons_of_mem _ (only_mem h).2⟩
theorem rwK_den {ρ : Nat → Value} {nil : Bool} {k : SB} {x : Blk} (h : rwK k = true) (hx : denB ρ nil k = some x) : x.rw = true := by
  cases k with
  | arr nn t l =>
    simp only [denB] at hx
    cases hn : nilA nn l <;> rw [hn] at hx <;> cases hx
    rfl
  | _ => simp [rwK] at h <;> simp only [denB, Option.some.injEq, reduceCtorEq] at hx <;> (subst hx; rfl)
theorem den_zero {ρ : Nat → Value} {nil : Bool} {k : SB} {n : Nat} (h : reg (some k) = some (n, 0)) : denB ρ nil k = none := by
  have key : ∀ (nn : Bool) (t : Ty) (l : List (T t)), some (l.length, rsz nn t l) = some (n, 0) → nilA nn l = true := fun nn t l h => by
    unfold rsz at h
    cases hn : nilA nn l with
    | true => rfl
    | false => rw [hn] at h; simp at h
  cases k with
  | arr nn t l => simp [denB, key nn t l h]
  | roa nn t l => simp [denB, key nn t l h]
  | fro nn t l => simp [denB, key nn t l h]
  | gone s m => rfl
  | _ => simp [reg] at h
theorem okW_get {H : SH} {b : Nat} : ∀ {wr : List Nat}, okW H wr = true → memB wr b = true → ∃ k, sget H b = some k ∧ (∀ s n, k ≠ .gone s n) ∧ k ≠ .abs
  | [], _, h => by cases h
  | c :: r, ho, h => by
    simp only [okW, Bool.and_eq_true] at ho
    have h : (bif Nat.beq c b then true else memB r b) = true := h
    by_cases hc : c = b
    · subst hc
      have h1 := ho.1
      cases hk : sget H c with
      | none => rw [hk] at h1; cases h1
      | some k =>
        refine ⟨k, rfl, fun s n e => ?_, fun e => ?_⟩ <;> subst e <;> rw [hk] at h1 <;> cases h1
    · have : Nat.beq c b = false := by
        cases hb : Nat.beq c b with
        | false => rfl
        | true => exact absurd (Nat.eq_of_beq_eq_true hb) hc
      rw [this] at h
      exact okW_get ho.2 h

/-- What a step's record says of a step. -/
structure SFit (s : Stp) (t : SStp) : Prop where
  ran : s.ran = t.ran
  lo : s.lo = t.lo
  hi : s.hi = t.hi
  vis : ∀ x ∈ s.V, memB t.vis x.1 = true
  wr : ∀ b, s.wr b = true → memB t.wr b = true

/-- A step that ran. -/
theorem step_ok {op : List SV → SH → Nat → Oper → KO R → Option R} {rd : Option Nat} {ops : Array Oper} {o : Oper} {vis wr : List Nat} {tm : List SV} {H V1 H2 : SH} {nx nx1 : Nat} {v : SV}
    (hop : SOp P rd o (keepS tm (slotsOf ops o) (List.replicate tm.length .junk)) (viewS vis wr H) nx v V1 nx1) (hvis : ∀ b, memB wr b = true → memB vis b = true) (hb : behind wr nx nx1 V1 H = some H2)
    {ν : Nat → Bool} (hv : VN ν nx H) {tmv : List Value} {G : Hp} (ht : TMix ν H tmv tm) (hm : Mix G (denH ν H)) (hw : wantedA ops tmv o = some true) :
    ∃ s : Stp, StpOk P rd ops o tmv G nx s ∧ s.o = o ∧ s.hi = nx1 ∧ VN ν nx1 H2 ∧ TMix ν H2 (putT tmv o.dst s.v) (putS tm o.dst v) ∧ Mix (if s.ran then merge s.touch s.H' G else G) (denH ν H2) ∧ SFit s ⟨true, vis, wr, nx, nx1⟩ := by
  obtain ⟨r1, r2, r3, r4⟩ := hop
  obtain ⟨v1, o1⟩ := r4 ν (vn_view hv)
  have B := behind_ok r1 r2 hvis hb
  have hc := behind_cond hb
  have hg := fun n => behind_get hb n
  let wr' : Nat → Bool := fun b => memB wr b && (G.get b).isSome
  have hvm := view_mix (vis := vis) (wr := wr) hm wr' (fun _ => rfl)
  have hdrop : ∀ b x, (denH ν (dropF wr nx nx1 V1)).get b = some x → (denH ν V1).get b = some x := fun b x hx => by
    have hr : rho ν (dropF wr nx nx1 V1) = rho ν V1 := rho_congr (fun c => by rw [dropF_get, reg_drop]) ν
    rw [denH_get, dropF_get, hr] at hx
    rw [denH_get]
    cases hk : sget V1 b with
    | none => rw [hk] at hx; cases hx
    | some k =>
      rw [hk] at hx
      simp only [Option.map_some, Option.bind_some] at hx ⊢
      cases htb : touchS wr nx nx1 b with
      | false => rw [htb] at hx; exact hx
      | true =>
        rw [htb, cond_true] at hx
        cases k <;> first | exact hx | (simp [denB] at hx)
  have htouch : ∀ b, touchOf wr' nx nx1 b = true → touchS wr nx nx1 b = true := fun b hb => by
    simp only [touchOf, wr', Bool.or_eq_true, Bool.and_eq_true, decide_eq_true_eq] at hb
    rw [touchS_iff]
    rcases hb with hb | hb
    · exact .inl hb.1
    · exact .inr hb
  refine ⟨⟨o, true, den (rho ν V1) v, keepT tmv (slotsOf ops o), Hp.only (memB vis) (mkView wr' (fun _ => false) G), wr', denH ν (dropF wr nx nx1 V1), nx, nx1⟩, ⟨rfl, rfl, r3, rfl, ?_, fun _ => ⟨?_, ?_⟩, fun b k hk => ?_, (fun h => by cases h), fun b hb => ?_⟩, rfl, rfl, B.vn ν nx nx1 hv v1 r3, ?_, ?_, ⟨rfl, rfl, rfl, fun x hx => (only_mem (b := x.1) (x := x.2) hx).1, fun b hb => ?_⟩⟩
  · rw [← wantedA_keep]; exact hw
  · refine opOk_weak (opOk_pre o1 (fun φ K w g => hvm.good g) fun φ K w g ts htr => ?_) (fun φ v' h => h) (fun φ K w g => g.sub hdrop)
    rw [rho_view]
    exact (ht.keep (slotsOf ops o)).rel htr
  · refine allRw_of fun b x hx => ?_
    obtain ⟨h1, h2⟩ := only_mem hx
    obtain ⟨k, h3, h4⟩ := denHr_mem h2
    exact rwK_den (okT_mem hc.1 h3 (htouch b h1)) h4
  · dsimp only at hk ⊢
    rw [Hp.get_only] at hk
    split at hk
    · rw [mkView_get, Option.map_eq_some_iff] at hk
      obtain ⟨k0, h1, rfl⟩ := hk
      exact ⟨k0, h1, rfl⟩
    · cases hk
  · simp only [wr', Bool.and_eq_true] at hb
    obtain ⟨k0, hk0⟩ := Option.isSome_iff_exists.1 hb.2
    refine ⟨seen1 wr' (fun _ => false) b k0, ?_⟩
    rw [Hp.get_only, if_pos (hvis b hb.1), mkView_get, hk0]; rfl
  · exact (ht.mono (rho_le ν B.reg)).put (rho_junk ν V1) (B.rho ν) o.dst v
  · simp only [if_true]
    intro b x hx
    have hstouch : Stp.touch ⟨o, true, den (rho ν V1) v, keepT tmv (slotsOf ops o), Hp.only (memB vis) (mkView wr' (fun _ => false) G), wr', denH ν (dropF wr nx nx1 V1), nx, nx1⟩ b = touchOf wr' nx nx1 b := rfl
    rw [merge_get, hstouch]
    rw [denH_get, hg b] at hx
    cases htb : touchS wr nx nx1 b with
    | false =>
      have h0 : touchOf wr' nx nx1 b = false := by
        cases h0 : touchOf wr' nx nx1 b with
        | false => rfl
        | true => rw [htouch b h0] at htb; cases htb
      rw [htb, cond_false, Option.bind_eq_some_iff] at hx
      obtain ⟨k, hk, hx⟩ := hx
      obtain ⟨y, h1, h2⟩ := denB_mix (rho_junk ν H) (rho_le ν B.reg) hx
      obtain ⟨z, h3, h4⟩ := hm b y (by rw [denH_get, hk]; exact h1)
      rw [h0]
      exact ⟨z, h3, h4.trans h2⟩
    | true =>
      rw [htb, cond_true, Option.bind_eq_some_iff] at hx
      obtain ⟨k, hk, hx⟩ := hx
      have hr : rho ν (dropF wr nx nx1 V1) = rho ν V1 := rho_congr (fun c => by rw [dropF_get, reg_drop]) ν
      obtain ⟨y, h1, h2⟩ := denB_mix (rho_junk ν V1) (B.rho ν) hx
      have hy : (denH ν (dropF wr nx nx1 V1)).get b = some y := by rw [denH_get, hk, hr]; exact h1
      cases h0 : touchOf wr' nx nx1 b with
      | true => exact ⟨y, by simpa using hy, h2⟩
      | false =>
        exfalso
        -- a nil array: it stays nil
        have hbw : memB wr b = true := by
          rcases touchS_iff.1 htb with h | h
          · exact h
          · simp only [touchOf, Bool.or_eq_false_iff, Bool.and_eq_false_iff, decide_eq_false_iff_not] at h0
            omega
        have hGn : G.get b = none := by
          simp only [touchOf, wr', Bool.or_eq_false_iff, hbw, Bool.true_and] at h0
          cases hG : G.get b with
          | none => rfl
          | some z => rw [hG] at h0; simp at h0
        obtain ⟨k0, hk0, hng, hna⟩ := okW_get hc.2.2 hbw
        have hdn : denB (rho ν H) (ν b) k0 = none := by
          cases hd : denB (rho ν H) (ν b) k0 with
          | none => rfl
          | some z =>
            obtain ⟨z0, h5, _⟩ := hm b z (by rw [denH_get, hk0]; exact hd)
            rw [hGn] at h5; cases h5
        have hnil : ∃ n, reg (some k0) = some (n, 0) := by
          cases k0 with
          | gone s n => exact absurd rfl (hng s n)
          | abs => exact absurd rfl hna
          | arr nn t l => cases hn : nilA nn l with
            | true => exact ⟨l.length, by simp [reg, rsz, hn]⟩
            | false => simp [denB, hn] at hdn
          | roa nn t l => cases hn : nilA nn l with
            | true => exact ⟨l.length, by simp [reg, rsz, hn]⟩
            | false => simp [denB, hn] at hdn
          | fro nn t l => cases hn : nilA nn l with
            | true => exact ⟨l.length, by simp [reg, rsz, hn]⟩
            | false => simp [denB, hn] at hdn
          | _ => simp [denB] at hdn
        obtain ⟨n0, hy0⟩ := hnil
        have h6 := r1 b (n0, 0) (by rw [viewS_get, reg_see, hk0]; exact hy0)
        rw [dropF_get, Option.map_eq_some_iff] at hk
        obtain ⟨k1, hk1, hk2⟩ := hk
        rw [hk1] at h6
        have h7 : reg (some k) = some (n0, 0) := by
          rw [← h6, ← hk2]
          exact reg_drop wr nx nx1 b (some k1)
        rw [den_zero h7] at h1
        cases h1
  · simp only [wr', Bool.and_eq_true] at hb; exact hb.1
/-- The looks that make every order come to the same. -/
def hitS (t : SStp) : List Nat → Bool
  | [] => false
  | x :: r => touchS t.wr t.lo t.hi x || hitS t r
def fit1 (ms : List Nat) (t : SStp) (j : Nat) : Nat → List SStp → Bool
  | _, [] => true
  | i, s :: r => (Nat.beq i j || (ordQ ms i j || !hitS t s.vis)) && fit1 ms t j (i + 1) r
def fitS (ms : List Nat) (all : List SStp) : Nat → List SStp → Bool
  | _, [] => true
  | j, t :: r => (!t.ran || (quiet t.wr t.lo t.hi || fit1 ms t j 0 all)) && fitS ms all (j + 1) r
theorem hitS_mem {t : SStp} {x : Nat} : ∀ {l : List Nat}, hitS t l = false → memB l x = true → touchS t.wr t.lo t.hi x = false
  | [], _, h => by cases h
  | y :: r, hh, h => by
    simp only [hitS, Bool.or_eq_false_iff] at hh
    have h : (bif Nat.beq y x then true else memB r x) = true := h
    cases hb : Nat.beq y x with
    | true => have := Nat.eq_of_beq_eq_true hb; subst this; exact hh.1
    | false => rw [hb] at h; exact hitS_mem hh.2 h
theorem fit1_at {ms : List Nat} {t : SStp} {j : Nat} : ∀ {l : List SStp} {i m : Nat} {s : SStp}, fit1 ms t j i l = true → l[m]? = some s → i + m = j ∨ ordQ ms (i + m) j = true ∨ hitS t s.vis = false
  | [], _, _, _, _, h => by simp at h
  | x :: r, i, 0, s, hf, h => by
    simp at h
    subst h
    simp only [fit1, Bool.and_eq_true, Bool.or_eq_true, Bool.not_eq_true'] at hf
    rcases hf.1 with h1 | h1 | h1
    · exact .inl (Nat.eq_of_beq_eq_true h1)
    · exact .inr (.inl h1)
    · exact .inr (.inr h1)
  | x :: r, i, m + 1, s, hf, h => by
    simp only [fit1, Bool.and_eq_true] at hf
    have := fit1_at (m := m) hf.2 (by simpa using h)
    rwa [show i + 1 + m = i + (m + 1) by omega] at this
theorem fitS_at {ms : List Nat} {all : List SStp} : ∀ {l : List SStp} {j m : Nat} {t : SStp}, fitS ms all j l = true → l[m]? = some t → t.ran = false ∨ quiet t.wr t.lo t.hi = true ∨ fit1 ms t (j + m) 0 all = true
  | [], _, _, _, _, h => by simp at h
  | x :: r, j, 0, t, hf, h => by
    simp at h
    subst h
    simp only [fitS, Bool.and_eq_true, Bool.or_eq_true, Bool.not_eq_true'] at hf
    exact hf.1
  | x :: r, j, m + 1, t, hf, h => by
    simp only [fitS, Bool.and_eq_true] at hf
    have := fitS_at (m := m) hf.2 (by simpa using h)
    rwa [show j + 1 + m = j + (m + 1) by omega] at this
theorem views_of {ms : List Nat} {ss : List Stp} {sl : List SStp} (hl : sl.length = ss.length) (hfit : ∀ (j : Nat) s t, ss[j]? = some s → sl[j]? = some t → SFit s t) (h : fitS ms sl 0 sl = true) : viewsFit ms ss = true := by
  unfold viewsFit
  rw [List.all_eq_true]
  rintro ⟨t, j⟩ ht
  rw [List.mem_zipIdx_iff_getElem?] at ht
  dsimp only at ht ⊢
  have hj : j < ss.length := (List.getElem?_eq_some_iff.1 ht).1
  have ht' : sl[j]? = some sl[j] := by simp [hl, hj]
  have ft := hfit j t _ ht ht'
  have htouch : ∀ x, t.touch x = true → touchS sl[j].wr sl[j].lo sl[j].hi x = true := fun x hx => by
    simp only [Stp.touch, touchOf, Bool.or_eq_true, Bool.and_eq_true, decide_eq_true_eq] at hx
    rw [touchS_iff]
    rcases hx with hx | hx
    · exact .inl (ft.wr x hx)
    · exact .inr (by rw [← ft.lo, ← ft.hi]; exact hx)
  rcases fitS_at h ht' with h1 | h1 | h1
  · rw [ft.ran, h1]; rfl
  · have hq := quiet_touch h1
    have h2 : Nat.beq t.lo t.hi = true := by
      unfold quiet at h1
      simp only [Bool.and_eq_true] at h1
      rw [ft.lo, ft.hi]; exact h1.2
    have h3 : (t.V.all fun x => !t.wr x.1) = true := by
      rw [List.all_eq_true]
      intro x _
      cases hw : t.wr x.1 with
      | false => rfl
      | true =>
        have := hq x.1
        have h5 : touchS sl[j].wr sl[j].lo sl[j].hi x.1 = true := touchS_iff.2 (.inl (ft.wr _ hw))
        rw [this] at h5; cases h5
    rw [h2, h3]; simp
  · rw [Nat.zero_add] at h1
    simp only [Bool.or_eq_true]
    right
    rw [List.all_eq_true]
    rintro ⟨s, i⟩ hs
    rw [List.mem_zipIdx_iff_getElem?] at hs
    dsimp only at hs ⊢
    have hi : i < ss.length := (List.getElem?_eq_some_iff.1 hs).1
    have hs' : sl[i]? = some sl[i] := by simp [hl, hi]
    have fs := hfit i s _ hs hs'
    have := fit1_at h1 hs'
    rw [Nat.zero_add] at this
    rcases this with h2 | h2 | h2
    · simp [h2]
    · have : ordered ms i j = true := by
        unfold ordQ at h2
        rw [lnat_eq, lnat_eq] at h2
        exact h2
      simp [this]
    · simp only [Bool.or_eq_true]
      right
      rw [List.all_eq_true]
      intro x hx
      have h3 := hitS_mem h2 (fs.vis x hx)
      cases ht : t.touch x.1 with
      | false => rfl
      | true => rw [htouch _ ht] at h3; cases h3
end Go.Fz.Sy
/- The symbolic engine, part OC: regions, with what each operation is let see. -/
noncomputable section
namespace Go.Fz.Sy
set_option linter.unusedVariables false
set_option linter.unusedSimpArgs false
variable {P : Program} {φ : Ren} {K : Nat → Prop} {w : World} {R : Type}

theorem drawK_ok {op : List SV → SH → Nat → Oper → KO R → Option R} {rd : Option Nat} (hop : OpS P rd op) {ops : Array Oper} {cut : Nat → List SV → SH → List SStp → Option (List Nat × List Nat)} :
    ∀ {l : List Oper} {i : Nat} {done : List SStp} {tm : List SV} {H : SH} {nx : Nat} {k : List SStp → List SV → SH → Nat → Option R} {r : R}, drawK op ops cut i done l tm H nx k = some r →
      ∃ (sl : List SStp) (tm' : List SV) (H' : SH) (nx' : Nat), sl.length = l.length ∧ k (done.reverse ++ sl) tm' H' nx' = some r ∧ RegLe H H' ∧ LKeep H H' ∧ Same (dsts l) tm tm' ∧ nx ≤ nx' ∧
        ∀ ν, VN ν nx H → VN ν nx' H' ∧ ∀ (tmv : List Value) (G : Hp), TMix ν H tmv tm → Mix G (denH ν H) →
          ∃ ss : List Stp, ss.length = l.length ∧ (∀ (j : Nat) o s, l[j]? = some o → ss[j]? = some s → StpOk P rd ops o (tmR (ss.take j) tmv) (hpR (ss.take j) G) (nxR (ss.take j) nx) s) ∧ nxR ss nx = nx' ∧
            TMix ν H' (tmR ss tmv) tm' ∧ Mix (hpR ss G) (denH ν H') ∧ ∀ (j : Nat) s t, ss[j]? = some s → sl[j]? = some t → SFit s t
  | [], i, done, tm, H, nx, k, r, h => by
    simp only [drawK] at h
    refine ⟨[], tm, H, nx, rfl, by simpa using h, RegLe.refl H, LKeep.refl H, Same.refl _ _, Nat.le_refl _, fun ν hv => ⟨hv, fun tmv G ht hm => ⟨[], rfl, fun j o s hj => by simp at hj, rfl, ht, hm, fun j s t hj => by simp at hj⟩⟩⟩
  | o :: l, i, done, tm, H, nx, k, r, h => by
    have hin1 : ∀ i ∈ o.dst.toList, i ∈ dsts (o :: l) := fun i hi => by
      show i ∈ (match o.dst with | some d => d :: dsts l | none => dsts l)
      cases hd : o.dst with
      | none => rw [hd] at hi; cases hi
      | some d => rw [hd] at hi; simp at hi; subst hi; simp
    have hin2 : ∀ i ∈ dsts l, i ∈ dsts (o :: l) := fun i hi => by
      show i ∈ (match o.dst with | some d => d :: dsts l | none => dsts l)
      cases o.dst with
      | none => exact hi
      | some d => exact List.mem_cons_of_mem _ hi
    simp only [drawK] at h
    rcases wantK_at h with ⟨hw, h1⟩ | ⟨hw, h1⟩
    · split at h1
      case h_2 => cases h1
      rename_i wr vis hcut
      have h6 := cond_some h1
      clear h1
      obtain ⟨hsub, h1⟩ := h6
      have hvis : ∀ b, memB wr b = true → memB vis b = true := fun b hb => subB_mem hsub hb
      obtain ⟨v, V1, nx1, hs, h2⟩ := hop h1
      dsimp only at h2
      split at h2
      case h_2 => cases h2
      rename_i H2 hb
      obtain ⟨sl, tm', H', nx', e1, e2, e3, e4, e5, e6, e7⟩ := drawK_ok hop h2
      have B := behind_ok hs.1 hs.2.1 hvis hb
      refine ⟨⟨true, vis, wr, nx, nx1⟩ :: sl, tm', H', nx', by simp [e1], by simpa using e2, B.reg.trans e3, B.keep.trans e4, (putS_same tm o.dst v).trans e5 hin1 hin2, Nat.le_trans hs.2.2.1 e6, fun ν hv => ?_⟩
      have hvn : VN ν nx1 H2 := B.vn ν nx nx1 hv (hs.2.2.2 ν (vn_view hv)).1 hs.2.2.1
      obtain ⟨f1, f2⟩ := e7 ν hvn
      refine ⟨f1, fun tmv G ht hm => ?_⟩
      obtain ⟨s, g1, g2, g3, _, g5, g6, g7⟩ := step_ok (op := op) hs hvis hb hv ht hm (hw tmv ht.any)
      obtain ⟨ss, q1, q2, q3, q4, q5, q6⟩ := f2 _ _ g5 g6
      have hhd : putT tmv s.o.dst s.v = putT tmv o.dst s.v := by rw [g2]
      refine ⟨s :: ss, by simp [q1], fun j o' s' ho' hs' => ?_, ?_, ?_, ?_, fun j s' t' hs' ht' => ?_⟩
      · cases j with
        | zero => simp at ho' hs'; subst ho'; subst hs'; exact g1
        | succ j =>
          simp only [List.getElem?_cons_succ] at ho' hs'
          have := q2 j o' s' ho' hs'
          simp only [List.take_succ_cons, tmR, hpR, nxR, g3, hhd]
          exact this
      · simp only [nxR, g3]; exact q3
      · simp only [tmR, hhd]; exact q4
      · simp only [hpR]; exact q5
      · cases j with
        | zero => simp at hs' ht'; subst hs'; subst ht'; exact g7
        | succ j => simp at hs' ht'; exact q6 j s' t' hs' ht'
    · obtain ⟨sl, tm', H', nx', e1, e2, e3, e4, e5, e6, e7⟩ := drawK_ok hop h1
      refine ⟨⟨false, [], [], nx, nx⟩ :: sl, tm', H', nx', by simp [e1], by simpa using e2, e3, e4, (putS_same tm o.dst _).trans e5 hin1 hin2, e6, fun ν hv => ?_⟩
      obtain ⟨f1, f2⟩ := e7 ν hv
      refine ⟨f1, fun tmv G ht hm => ?_⟩
      have hu : undef = den (rho ν H) (.tup []) := by simp [den, denL, undef]
      obtain ⟨ss, q1, q2, q3, q4, q5, q6⟩ := f2 (putT tmv o.dst undef) G (by rw [hu]; exact ht.put (rho_junk ν H) (RLe.refl _) o.dst _) hm
      refine ⟨⟨o, false, undef, keepT tmv (slotsOf ops o), [], fun _ => false, [], nx, nx⟩ :: ss, by simp [q1], fun j o' s' ho' hs' => ?_, ?_, ?_, ?_, fun j s' t' hs' ht' => ?_⟩
      · cases j with
        | zero =>
          simp at ho' hs'
          subst ho'; subst hs'
          refine ⟨rfl, rfl, Nat.le_refl _, rfl, ?_, (fun h => by cases h), (fun b k hb => by simp [Hp.get_nil] at hb), fun _ => ⟨rfl, fun b => by simp [Stp.touch, touchOf]⟩, fun b hb => by cases hb⟩
          show wantedA ops (keepT tmv (slotsOf ops o)) o = some false
          rw [← wantedA_keep]
          exact hw tmv ht.any
        | succ j =>
          simp only [List.getElem?_cons_succ] at ho' hs'
          exact q2 j o' s' ho' hs'
      · exact q3
      · exact q4
      · simp only [hpR, Bool.false_eq_true, if_false]; exact q5
      · cases j with
        | zero =>
          simp at hs' ht'
          subst hs'; subst ht'
          exact ⟨rfl, rfl, rfl, (fun x hx => by cases hx), (fun b hb => by cases hb)⟩
        | succ j => simp at hs' ht'; exact q6 j s' t' hs' ht'
theorem codeOk_weak {r : Option Nat} {c : Code} {tm : List Value} {ds : List Nat} {H : Hp} {nx : Nat} {R R2 : Res} (h : CodeOk P r c tm ds H nx R) (he : R2.e = R.e) (hd : R2.ds = R.ds) (hn : R2.nx = R.nx) (hH : ∀ φ K w, Good φ R.H K w → Good φ R2.H K w) (ht : ∀ φ ts, TRel φ R.tm ts → TRel φ R2.tm ts) : CodeOk P r c tm ds H nx R2 := by
  obtain ⟨e, t, d, H', n⟩ := R2
  dsimp only at he hd hn hH ht
  subst he; subst hd; subst hn
  refine ⟨h.1, fun φ w K a rc g hf htm hds hr => wpIn_mono (h.2 φ w K a rc g hf htm hds hr) ?_⟩
  rintro e a1 w1 ⟨rfl, φ1, k1, k2, k3, k4, k5⟩
  exact ⟨rfl, φ1, k1, hH _ _ _ k2, ht _ _ k3, k4, k5⟩

/-! ### What an operation is let see -/
def blkS (tm : List SV) (x : Operand) : List Nat := match x with
  | .tmp t => match gl tm t with
    | some (.ptr b _) => [b]
    | some (.elp b _ _ _) => [b]
    | some (.own b) => [b]
    | _ => []
  | _ => []
def ownS (tm : List SV) (x : Operand) : List Nat := match x with
  | .tmp t => match gl tm t with
    | some (.own b) => [b]
    | _ => []
  | _ => []
def mpS (tm : List SV) (x : Operand) : List Nat := match x with
  | .tmp t => match gl tm t with
    | some (.mp b) => [b]
    | _ => []
  | _ => []
def looksS (tm : List SV) (o : Oper) : Option (List Nat) := match o.op with
  | .load _ a => some (blkS tm a)
  | .store _ a x => some (blkS tm a ++ ownS tm x)
  | .indexAddr _ x _ => some (ownS tm x)
  | .slice _ x _ _ _ => some (ownS tm x)
  | .buildSlice _ _ ps => some (ps.toList.flatMap fun p => ownS tm p.2)
  | .call { callee := .builtin _, args := args, argTypes := _ } => some (args.toList.flatMap (ownS tm))
  | .lookup _ m _ _ => some (mpS tm m)
  | .mapUpdate _ m _ _ => some (mpS tm m)
  | .insert _ m _ _ => some (mpS tm m)
  | .call _ => none
  | _ => some []
def turnsS (tm : List SV) (o : Oper) : List Nat := match o.op with
  | .store _ a x => blkS tm a ++ ownS tm x
  | .slice _ x _ _ _ => ownS tm x
  | .buildSlice _ _ ps => ps.toList.flatMap fun p => ownS tm p.2
  | .lookup _ m _ _ => mpS tm m
  | .mapUpdate _ m _ _ => mpS tm m
  | .insert _ m _ _ => mpS tm m
  | .call { callee := .builtin .append, args := args, argTypes := _ } => match args.toList with
    | s :: _ => ownS tm s
    | _ => []
  | .call { callee := .builtin .copy, args := args, argTypes := _ } => match args.toList with
    | s :: _ => ownS tm s
    | _ => []
  | _ => []
def turnable (H : SH) (b : Nat) : Bool := match sget H b with
  | some (.vars _) => true
  | some (.arr _ _ _) => true
  | some (.loop _) => true
  | some .defd => true
  | some (.mpb _ _ _ _) => true
  | _ => false
def namesS : SH → List Nat
  | [] => []
  | (b, _) :: r => b :: namesS r
def turnableL (H : SH) : List Nat → List Nat
  | [] => []
  | b :: r => bif turnable H b then b :: turnableL H r else turnableL H r
def ownsA : List SV → List Nat
  | [] => []
  | .own b :: r => b :: ownsA r
  | _ :: r => ownsA r
/-- Arrays of ours that go into a call. -/
def goneIn (tm : List SV) : List Operand → List Nat
  | [] => []
  | .tmp t :: r => (match gl tm t with
    | some (.own b) => [b]
    | some (.agg cs) => ownsA cs
    | _ => []) ++ goneIn tm r
  | _ :: r => goneIn tm r
def callArgs (o : Oper) : List Operand := match o.op with
  | .call { callee := .value _, args := args, argTypes := _ } => args.toList
  | _ => []
def cutS (ops : Array Oper) (ms : List Nat) (est : List (List Nat)) (i : Nat) (tm : List SV) (H : SH) (done : List SStp) : Option (List Nat × List Nat) :=
  match gl ops.toList i with
  | none => none
  | some o => match looksS tm o with
    | some bs => some (turnableL H (turnsS tm o), bs)
    | none => match (List.range ops.size).filter fun j => j != i && !ordQ ms i j with
      | [] => some (turnableL H (namesS H), namesS H)
      | others => match others.flatMap (fun j => est.getD j [] ++ (match ops[j]? with | some p => turnsS tm p | none => [])), others.filterMap fun j => if j < i then (match (done.reverse)[j]? with | some s => if s.lo < s.hi then some (s.lo, s.hi) else none | none => none) else none with
        | mask, rs => some (turnableL H ((goneIn tm (callArgs o)).filter fun b => !(mask.contains b || inRange rs b)), (namesS H).filter fun b => !(mask.contains b || inRange rs b))
/-- A first guess at what each operation may turn. -/
def guessS (P : Program) (ops : Array Oper) (H : SH) : List Oper → List SV → List (List Nat)
  | [], _ => []
  | o :: l, tm => turnsS tm o :: guessS P ops H l (putS tm o.dst (match sop0 P tm H 0 o with
    | some (v, _, _) => v
    | none => .junk))
/-- Arrays of ours that go into a call or are cut are frozen ahead. -/
def preF (H : SH) (tm : List SV) : List Operand → SH
  | [] => H
  | x :: r => match x with
    | .tmp t => match gl tm t with
      | some (.own b) => match sget H b with
        | some (.arr nn ty l) => preF (sset H b (.fro nn ty l)) tm r
        | _ => preF H tm r
      | _ => preF H tm r
    | _ => preF H tm r
def preOps (o : Oper) : List Operand := match o.op with
  | .call { callee := .value _, args := args, argTypes := _ } => args.toList
  | .slice _ x _ _ _ => [x]
  | _ => []
def preL (H : SH) (tm : List SV) : List Oper → SH
  | [] => H
  | o :: l => preL (preF H tm (preOps o)) tm l
theorem preF_ghost (tm : List SV) : ∀ (xs : List Operand) (H : SH), Ghost H (preF H tm xs)
  | [], H => Ghost.refl H
  | x :: r, H => by
    unfold preF
    split
    · split
      · split
        · rename_i hb; exact (ghost_freeze hb).trans (preF_ghost tm r _)
        · exact preF_ghost tm r _
      · exact preF_ghost tm r _
    · exact preF_ghost tm r _
theorem preL_ghost (tm : List SV) : ∀ (l : List Oper) (H : SH), Ghost H (preL H tm l)
  | [], H => Ghost.refl H
  | o :: l, H => (preF_ghost tm _ H).trans (preL_ghost tm l _)
def fixAll (H : SH) (tm : List SV) : List Oper → List SV
  | [] => tm
  | o :: l => fixAll H (fixT H tm (match o.op with
    | .indexAddr _ x _ => [x]
    | .slice _ x _ _ _ => [x]
    | .call c => c.args.toList
    | _ => [])) l
theorem fixAll_rel {ν : Nat → Bool} {nx : Nat} {H : SH} (hv : VN ν nx H) (g : Good φ (denH ν H) K w) : ∀ {l : List Oper} {tm : List SV} {ts : Array Value}, TRel φ (denL (rho ν H) tm) ts → TRel φ (denL (rho ν H) (fixAll H tm l)) ts
  | [], _, _, ht => ht
  | o :: l, tm, ts, ht => fixAll_rel hv g (l := l) (fixT_rel hv g ht)
def drawR (P : Program) (op : List SV → SH → Nat → Oper → KO R → Option R) (ops : Array Oper) (tm : List SV) (H : SH) (nx : Nat) (k : List SV → SH → Nat → Option R) : Option R :=
  match masksR ops.toList 0 [] with
  | ms => match preL H tm ops.toList with
    | H1 => match (bif ops.toList.any isWriter then guessS P ops H1 ops.toList tm else []) with
      | est => drawK op ops (cutS ops ms est) 0 [] ops.toList tm H1 nx fun sl tm' H' nx' => bif staticQ ms ops && (fitS ms sl 0 sl && P.follows .mixedOrders) then k tm' H' nx' else none
theorem codeOk_ghost {r : Option Nat} {c : Code} {tm : List Value} {ds : List Nat} {H H1 : SH} {nx : Nat} {R : Res} {ν : Nat → Bool} (hg : Ghost H H1) (h : CodeOk P r c tm ds (denH ν H1) nx R) : CodeOk P r c tm ds (denH ν H) nx R :=
  ⟨h.1, fun φ w K a rc g hf ht hd hr => by
    obtain ⟨φ1, e1, g1⟩ := hg.2 ν φ K w g
    have hle := (e1 0).1
    refine wpIn_mono (h.2 φ1 w K a rc g1 (fresh_ext (mid := 0) hf e1) (ht.mono hle) (hd.mono hle) (hr.mono hle)) ?_
    rintro e a1 w1 ⟨rfl, φ2, k1, k2, k3, k4, k5⟩
    exact ⟨rfl, φ2, (e1 nx).trans k1 (Nat.le_refl _) h.1, k2, k3, k4, k5⟩⟩
theorem drawR_ok {op : List SV → SH → Nat → Oper → KO R → Option R} {rd : Option Nat} (hop : OpS P rd op) {id : Nat} {ops : Array Oper} {tm : List SV} {ds : List Nat} {H : SH} {nx : Nat} {k : List SV → SH → Nat → Option R} {r : R} (h : drawR P op ops tm H nx k = some r) :
    ∃ tm' H' nx', SCode P rd (.region id ops true) tm ds H nx ⟨.normal, tm', ds, H', nx'⟩ ∧ k tm' H' nx' = some r := by
  unfold drawR at h
  dsimp only at h
  obtain ⟨sl, tm', H', nx', e1, e2, e3, e4, e5, e6, e7⟩ := drawK_ok hop h
  have h6 := cond_some e2
  obtain ⟨hc, h2⟩ := h6
  simp only [Bool.and_eq_true, staticQ] at hc
  obtain ⟨⟨c1, c2⟩, c3, c4⟩ := hc
  have c1 := masksFitQ_ok c1
  have c2 := slotsQ_ok c2
  have hg := preL_ghost tm ops.toList H
  refine ⟨tm', H', nx', ⟨hg.1.regLe.trans e3, hg.1.lkeep.trans e4, e5, e6, fun ν hv => ?_⟩, h2⟩
  obtain ⟨f1, f2⟩ := e7 ν (hg.1.vn hv)
  refine ⟨f1, codeOk_ghost hg ?_⟩
  obtain ⟨ss, q1, q2, q3, q4, q5, q6⟩ := f2 _ _ (TMix.refl ν _ tm) (Mix.refl _)
  have hvf := views_of (ms := masksR ops.toList 0 []) (by rw [e1, q1]) q6 (by simpa using c3)
  obtain ⟨D, hs, ht⟩ := drawOk_st (ms := masksR ops.toList 0 []) ⟨q1, q2⟩ c1 c2 hvf
  have := codeOk_draw (id := id) (ds := ds) c4 D (HF := hpR ss (denH ν (preL H tm ops.toList))) (fun b k hb => by rw [hs]; exact hb)
  rw [ht, q3] at this
  rw [show rho ν H = rho ν (preL H tm ops.toList) from (hg.1.rho ν).symm]
  exact codeOk_weak this rfl rfl rfl (fun φ K w g => q5.good g) (fun φ ts ht => q4.rel ht)
end Go.Fz.Sy
/- The symbolic engine, part P: calls, rounds, loops over functions, whole code. -/
noncomputable section
namespace Go.Fz.Sy
set_option linter.unusedVariables false
set_option linter.unusedSimpArgs false
variable {P : Program} {φ : Ren} {K : Nat → Prop} {w : World} {R : Type}

def SCall (P : Program) (f : FuncId) (args : List SV) (H : SH) (nx : Nat) (v : SV) (H' : SH) (nx' : Nat) : Prop :=
  (∃ fn, P.funcs[f]? = some fn ∧ fn.body.isSome = true) ∧ RegLe H H' ∧ LKeep H H' ∧ nx ≤ nx' ∧ ∀ ν, VN ν nx H → VN ν nx' H' ∧ CallOk P f (denL (rho ν H) args) (denH ν H) nx (den (rho ν H') v) (denH ν H') nx'
def SLoop (P : Program) (rd : Option Nat) (c : Code) (tm : List SV) (ds : List Nat) (H : SH) (nx : Nat) (R : SRes) : Prop :=
  RegLe H R.H ∧ LKeep H R.H ∧ Same (asg c) tm R.tm ∧ nx ≤ R.nx ∧ ∀ ν, VN ν nx H → VN ν R.nx R.H ∧ LoopOk P rd c (denL (rho ν H) tm) ds (denH ν H) nx (denR ν R)
def SScp (P : Program) (c x : Code) (tm : List SV) (ds : List Nat) (H : SH) (nx : Nat) (R : SRes) : Prop :=
  RegLe H R.H ∧ LKeep H R.H ∧ Same (asg c) tm R.tm ∧ nx ≤ R.nx ∧ ∀ ν, VN ν nx H → VN ν R.nx R.H ∧ ScpOk P c x (denL (rho ν H) tm) ds (denH ν H) nx (denR ν R)

structure EvS (R : Type) where
  call : FuncId → List SV → SH → Nat → KO R → Option R
  code : Option Nat → Code → List SV → List Nat → SH → Nat → KC R → Option R
  loop : Option Nat → Code → List SV → List Nat → SH → Nat → KC R → Option R
  scp : Code → Nat → Code → List SV → List Nat → SH → Nat → KC R → Option R
  /-- code whose ways are told as data -/
  join : Option Nat → Code → List SV → List Nat → SH → Nat → KC R → Option R
  /-- code, its first step plain -/
  code0 : Option Nat → Code → List SV → List Nat → SH → Nat → KC R → Option R
  /-- whether code's ways are to be told as data -/
  jq : Code → Nat → Bool
structure EvS.Ok (P : Program) (E : EvS R) : Prop where
  call : ∀ {f args H nx k r}, E.call f args H nx k = some r → ∃ v H' nx', SCall P f args H nx v H' nx' ∧ k v H' nx' = some r
  code : ∀ {rd c tm ds H nx k r}, E.code rd c tm ds H nx k = some r → ∃ S, SCode P rd c tm ds H nx S ∧ k S = some r
  loop : ∀ {rd c tm ds H nx k r}, E.loop rd c tm ds H nx k = some r → ∃ S, SLoop P rd c tm ds H nx S ∧ k S = some r
  scp : ∀ {c l x tm ds H nx k r}, findLabel c l = some x → (∀ i ∈ asg x, i ∈ asg c) → E.scp c l x tm ds H nx k = some r → ∃ S, SScp P c x tm ds H nx S ∧ k S = some r
  join : ∀ {rd c tm ds H nx k r}, E.join rd c tm ds H nx k = some r → ∃ S, SCode P rd c tm ds H nx S ∧ k S = some r
  code0 : ∀ {rd c tm ds H nx k r}, E.code0 rd c tm ds H nx k = some r → ∃ S, SCode P rd c tm ds H nx S ∧ k S = some r

theorem codeOk_pre {r : Option Nat} {c : Code} {tm tm0 : List Value} {ds : List Nat} {H H0 : Hp} {nx : Nat} {R : Res} (h : CodeOk P r c tm0 ds H0 nx R) (hH : ∀ φ K w, Good φ H K w → Good φ H0 K w) (hT : ∀ φ ts, TRel φ tm ts → TRel φ tm0 ts) : CodeOk P r c tm ds H nx R :=
  ⟨h.1, fun φ w K a rc g hf ht hd hr => h.2 φ w K a rc (hH _ _ _ g) hf (hT _ _ ht) hd hr⟩

/-! ### Records of loops, turned -/
theorem loop_reg {H : SH} {l : Nat} {L L' : SL} (hl : sget H l = some (.loop L)) (c : Nat) : reg (sget (sset H l (.loop L')) c) = reg (sget H c) := by
  rw [sget_set]
  by_cases h : c = l
  · subst h; simp [hl, reg]
  · rw [if_neg h]
theorem loop_nn {H : SH} {l : Nat} {L L' : SL} (hl : sget H l = some (.loop L)) (c : Nat) (h : notNil (sget (sset H l (.loop L')) c) = true) : notNil (sget H c) = true := by
  rw [sget_set] at h
  by_cases hc : c = l
  · subst hc; simp [hl, notNil] at h
  · rwa [if_neg hc] at h
theorem loop_den {ν : Nat → Bool} {H : SH} {l : Nat} {L L' : SL} (hl : sget H l = some (.loop L)) (c : Nat) : (denH ν (sset H l (.loop L'))).get c = ((denH ν H).set l (.loop (denLoop (rho ν H) L'))).get c := by
  rw [denH_get, sget_set, rho_congr (loop_reg hl), Hp.get_set, denH_get]
  by_cases hc : c = l
  · subst hc; simp [hl, denB]
  · rw [if_neg hc, if_neg hc, denH_get]
theorem loop_lkeep {H : SH} {l : Nat} {L : SL} (hl : sget H l = some (.loop L)) (s : LoopState) (p : Option Code) : LKeep H (sset H l (.loop { L with st := s, pend := p })) := fun m M hm => by
  rw [sget_set]
  by_cases h : m = l
  · subst h
    rw [hl] at hm; cases hm
    exact ⟨s, p, by simp [hl]⟩
  · rw [if_neg h]; exact ⟨M.st, M.pend, hm⟩
def setP : List Tmp → List SV → List SV → List SV
  | t :: ts, v :: vs, tm => setP ts vs (lsS tm t v)
  | _, _, tm => tm
theorem setP_den (ρ : Nat → Value) : ∀ (ps : List Tmp) (vs tm : List SV), denL ρ (setP ps vs tm) = setParams ps (denL ρ vs) (denL ρ tm)
  | [], vs, tm => by simp [setP, setParams]
  | p :: ps, [], tm => by simp [setP, setParams, denL]
  | p :: ps, v :: vs, tm => by
    simp only [setP, denL, setParams, lsS_eq]
    rw [setP_den ρ ps vs]
    congr 1
    simp [denL_map, List.map_set]
def yieldK (E : EvS R) (l : Nat) (vs : List SV) (H : SH) (nx : Nat) (k : KO R) : Option R := match sget H l with
  | some (.loop L) => bif lenB vs L.params.size then E.code (some l) L.assign (setP L.params.toList vs L.tm) [] H nx fun R1 => match R1.e, R1.ds, sget R1.H l with
      | .normal, [], some (.loop L1) => match L1.st with
        | .ready => E.code (some l) L.body R1.tm [] (sset R1.H l (.loop { L1 with st := .busy })) R1.nx fun R2 => match sget R2.H l, roundEnd R2.e with
          | some (.loop L2), some (b, s, p) => k (.bool b) (sset R2.H l (.loop { L2 with st := s, pend := p })) R2.nx
          | _, _ => none
        | _ => none
      | _, _, _ => none
    else none
  | _ => none
theorem yieldK_ok {E : EvS R} (hE : E.Ok P) {rd : Option Nat} {o : Oper} {tm : List SV} {H : SH} {nx : Nat} {k : KO R} {r : R} {cf : Operand} {args : Array Operand} {ats : Array TypeId} (ho : o.op = .call { callee := .value cf, args := args, argTypes := ats })
    {l : Nat} {vs : List SV} (hcf : sopv tm H cf = some (.yld l)) (hvs : sopvs tm H args.toList = some vs) (h : yieldK E l vs H nx k = some r) : Told P rd o tm H nx k r := by
  unfold yieldK at h
  split at h
  case h_2 => cases h
  rename_i L hl
  have h6 := cond_some h
  clear h
  obtain ⟨hn, h⟩ := h6
  have hn := lenB_eq hn
  obtain ⟨R1, ⟨a1, a2, a3, a4, a5⟩, h1⟩ := hE.code h
  split at h1
  case h_2 => cases h1
  rename_i he1 hd1 hl1
  rename_i L1
  split at h1
  case h_2 => cases h1
  rename_i hst
  obtain ⟨R2, ⟨b1, b2, b3, b4, b5⟩, h2⟩ := hE.code h1
  split at h2
  case h_2 => cases h2
  rename_i L2 b s p hl2 he2
  have hpl : L1.pend = L1.pend := rfl
  refine told (v := .bool b) ⟨?_, ?_, Nat.le_trans a4 b4, fun ν hv => ?_⟩ h2
  · exact fun c x hx => by rw [loop_reg hl2]; exact b1 c x (by rw [loop_reg hl1]; exact a1 c x hx)
  · exact ((a2.trans (loop_lkeep hl1 .busy L1.pend)).trans b2).trans (loop_lkeep hl2 s p)
  · obtain ⟨v1, o1⟩ := a5 ν hv
    have v1' : VN ν R1.nx (sset R1.H l (.loop { L1 with st := .busy })) := vn_congr (loop_reg hl1) (loop_nn hl1) v1
    obtain ⟨v2, o2⟩ := b5 ν v1'
    refine ⟨vn_congr (loop_reg hl2) (loop_nn hl2) v2, ?_⟩
    have hcf' := sopv_den hcf ν
    simp only [den] at hcf'
    have hlv : (denH ν H).get l = some (.loop (denLoop (rho ν H) L)) := by rw [denH_get, hl]; rfl
    have key := opOk_yield (P := P) (r := rd) (o := o) ho (R1 := denR ν R1) (R2 := denR ν R2) (L1 := denLoop (rho ν R1.H) L1) (L2 := denLoop (rho ν R2.H) L2) (b := b) (s := s) (p := p) hcf' (sopvs_den ν hvs) hlv (by rw [denL_length]; exact hn)
      (by have := o1; rw [setP_den] at this; simpa [denLoop] using this) he1 hd1 (by show (denH ν R1.H).get l = _; rw [denH_get, hl1]; rfl) hst
      (codeOk_pre o2 (fun φ K w g => g.sub fun c x hx => by rw [loop_den hl1] at hx; exact hx) (fun φ ts ht => by rw [rho_congr (loop_reg hl1)]; exact ht))
      (by show (denH ν R2.H).get l = _; rw [denH_get, hl2]; rfl) he2
    refine opOk_weak key (fun φ v' hv => by simpa only [den] using hv) (fun φ K w g => g.sub fun c x hx => ?_)
    rw [loop_den hl2] at hx
    exact hx
/-- One operation. -/
def opE (P : Program) (E : EvS R) (tm : List SV) (H : SH) (nx : Nat) (o : Oper) (k : KO R) : Option R := match o.op with
  | .call { callee := .value cf, args := args, argTypes := _ } => match sopv tm H cf, sopvs tm H args.toList with
    | some (.fn f fs cs), some vs => E.call f (fs ++ (vs ++ cs)) H nx k
    | some (.yld l), some vs => yieldK E l vs H nx k
    | _, _ => none
  | _ => sopK P tm H nx o k
theorem opE_ok {E : EvS R} (hE : E.Ok P) (hs : NoSpecial P) {rd : Option Nat} : OpS P rd (opE P E) := by
  intro tm H nx o k r h
  unfold opE at h
  split at h
  · rename_i cf args ats ho
    split at h
    · rename_i f fs cs vs hcf hvs
      obtain ⟨v, H', nx', ⟨⟨fn, hfn, hb⟩, a1, a2, a3, a4⟩, h2⟩ := hE.call h
      refine told ⟨a1, a2, a3, fun ν hv => ?_⟩ h2
      obtain ⟨v1, o1⟩ := a4 ν hv
      refine ⟨v1, opOk_call ho hs hfn hb (f := f) (fs := (denL (rho ν H) fs).toArray) (cs := (denL (rho ν H) cs).toArray) ?_ (sopvs_den ν hvs) ?_⟩
      · have := sopv_den hcf ν; simpa only [den] using this
      · have : denL (rho ν H) (fs ++ (vs ++ cs)) = denL (rho ν H) fs ++ denL (rho ν H) vs ++ denL (rho ν H) cs := by simp [denL_map]
        rw [this] at o1
        exact o1
    · rename_i l vs hcf hvs
      exact yieldK_ok hE ho hcf hvs h
    · cases h
  · exact sopK_ok h

/-- A truth value that an operation gives is decided at once. -/
def splitK (k : KO R) : KO R := fun v H nx => match v with
  | .bool b => bif b then k (.bool true) H nx else k (.bool false) H nx
  | v => k v H nx
theorem splitK_eq (k : KO R) (v : SV) (H : SH) (nx : Nat) : splitK k v H nx = k v H nx := by
  unfold splitK
  split
  · rename_i b; cases b <;> rfl
  · rfl
def opX (P : Program) (E : EvS R) (tm : List SV) (H : SH) (nx : Nat) (o : Oper) (k : KO R) : Option R := opE P E tm H nx o k
theorem opX_ok {E : EvS R} (hE : E.Ok P) (hs : NoSpecial P) {rd : Option Nat} : OpS P rd (opX P E) := by
  intro tm H nx o k r h
  obtain ⟨v, H', nx', h1, h2⟩ := opE_ok hE hs h
  exact ⟨v, H', nx', h1, h2⟩

/-! ### Loops over functions -/
def afterE : LoopState → Option Code → Option Exit
  | .busy, _ => none
  | _, none => some .normal
  | _, some .ret => some .ret
  | _, some (.exit i) => some (.exit i)
  | _, some (.goto i) => some (.goto i)
  | _, _ => none
theorem afterE_loop {L : Loop} {tm : List Value} {ds : List Nat} {H : Hp} {nx : Nat} {e : Exit} (h : afterE L.state L.pending = some e) : afterLoop L tm ds H nx = some ⟨e, tm, ds, H, nx⟩ := by
  unfold afterE at h
  unfold afterLoop
  split at h <;> first | (cases h; done) | skip
  all_goals (cases h; rename_i h1 h2; first
    | (rename_i h3; rw [h2]; cases hs : L.state <;> first | rfl | (exact absurd hs h1) | (simp_all))
    | (cases hs : L.state <;> simp_all))
def rangeK (E : EvS R) (rd : Option Nat) (g : Operand) (ps : Array Tmp) (assign body : Code) (tm : List SV) (ds : List Nat) (H : SH) (nx : Nat) (k : KC R) : Option R := match sopv tm H g with
  | some (.fn f fs cs) => match rd with
    | none => match newS H nx .defd with
      | some H1 => match newS H1 (nx + 1) (.loop ⟨tm, ps, assign, body, .ready, none, nx⟩) with
        | some H2 => E.call f (fs ++ (.yld (nx + 1) :: cs)) H2 (nx + 2) fun _ H3 nx3 => match sget H3 (nx + 1) with
          | some (.loop L) => match afterE L.st L.pend with
            | some e => k ⟨e, tm, nx :: ds, sset H3 (nx + 1) .abs, nx3⟩
            | none => none
          | _ => none
        | none => none
      | none => none
    | some l0 => match sget H l0 with
      | some (.loop L0) => match newS H nx (.loop ⟨tm, ps, assign, body, .ready, none, L0.dfr⟩) with
        | some H2 => E.call f (fs ++ (.yld nx :: cs)) H2 (nx + 1) fun _ H3 nx3 => match sget H3 nx with
          | some (.loop L) => match afterE L.st L.pend with
            | some e => k ⟨e, tm, ds, sset H3 nx .abs, nx3⟩
            | none => none
          | _ => none
        | none => none
      | _ => none
  | _ => none
theorem abs_reg {H : SH} {l : Nat} {L : SL} (hl : sget H l = some (.loop L)) (c : Nat) : reg (sget (sset H l .abs) c) = reg (sget H c) := by
  rw [sget_set]
  by_cases h : c = l
  · subst h; simp [hl, reg]
  · rw [if_neg h]
theorem abs_nn {H : SH} {l : Nat} {L : SL} (hl : sget H l = some (.loop L)) (c : Nat) (h : notNil (sget (sset H l .abs) c) = true) : notNil (sget H c) = true := by
  rw [sget_set] at h
  by_cases hc : c = l
  · subst hc; simp [hl, notNil] at h
  · rwa [if_neg hc] at h
theorem abs_den {ν : Nat → Bool} {H : SH} {l : Nat} {L : SL} (hl : sget H l = some (.loop L)) (c : Nat) (x : Blk) (h : (denH ν (sset H l .abs)).get c = some x) : ((denH ν H).del l).get c = some x := by
  rw [denH_get, sget_set, rho_congr (abs_reg hl)] at h
  rw [Hp.get_del]
  by_cases hc : c = l
  · subst hc; simp [hl, denB] at h
  · rw [if_neg hc] at h ⊢
    rw [denH_get]; exact h
theorem new_rho {H : SH} {nx : Nat} {k : SB} (h : sget H nx = none) (hk : reg (some k) = none) (ν : Nat → Bool) : rho ν ((nx, k) :: H) = rho ν H := rho_congr (fun c => by
  rw [sget_cons]
  by_cases hc : nx = c
  · subst hc; rw [if_pos rfl, hk, h]; rfl
  · rw [if_neg hc]) ν
theorem new_den {H : SH} {nx : Nat} {k : SB} (h : sget H nx = none) (hk : reg (some k) = none) {ν : Nat → Bool} {x : Blk} (hx : denB (rho ν H) (ν nx) k = some x) : denH ν ((nx, k) :: H) = (nx, x) :: denH ν H := by
  unfold denH
  rw [new_rho h hk]
  simp only [denHr, hx]
theorem rangeK_ok {E : EvS R} (hE : E.Ok P) (hs : NoSpecial P) {rd : Option Nat} {g : Operand} {ps : Array Tmp} {assign body : Code} {tm : List SV} {ds : List Nat} {H : SH} {nx : Nat} {k : KC R} {r : R} (h : rangeK E rd g ps assign body tm ds H nx k = some r) :
    ∃ S, SCode P rd (.rangeFunc g ps assign body) tm ds H nx S ∧ k S = some r := by
  unfold rangeK at h
  split at h
  case h_2 => cases h
  rename_i f fs cs hg
  split at h
  · split at h
    case h_2 => cases h
    rename_i H1 hn1
    split at h
    case h_2 => cases h
    rename_i H2 hn2
    obtain ⟨q1, rfl⟩ := newS_some hn1
    obtain ⟨q2, rfl⟩ := newS_some hn2
    obtain ⟨v, H3, nx3, ⟨⟨fn, hfn, hb⟩, a1, a2, a3, a4⟩, h2⟩ := hE.call h
    split at h2
    case h_2 => cases h2
    rename_i L hl
    split at h2
    case h_2 => cases h2
    rename_i e he
    have hq2 : sget H (nx + 1) = none := by
      rw [sget_cons, if_neg (by omega)] at q2; exact q2
    refine ⟨_, ⟨?_, ?_, Same.refl _ _, ?_, fun ν hv => ?_⟩, h2⟩
    · exact fun c x hx => by
        rw [abs_reg hl]
        exact a1 c x (new_reg q2 c x (new_reg q1 c x hx))
    · intro m M hm
      have hne : m ≠ nx + 1 := fun e => by subst e; rw [hq2] at hm; cases hm
      obtain ⟨s, p, h3⟩ := ((new_lkeep q1).trans (new_lkeep q2)).trans a2 m M hm
      exact ⟨s, p, by rw [sget_set, if_neg hne]; exact h3⟩
    · exact Nat.le_trans (by omega) a3
    · have v2 : VN ν (nx + 2) ((nx + 1, .loop ⟨tm, ps, assign, body, .ready, none, nx⟩) :: (nx, .defd) :: H) := new_vn (new_vn hv)
      obtain ⟨v3, o3⟩ := a4 ν v2
      refine ⟨vn_congr (abs_reg hl) (abs_nn hl) v3, ?_⟩
      have hρ1 : rho ν ((nx, SB.defd) :: H) = rho ν H := new_rho q1 rfl ν
      have hρ2 : rho ν ((nx + 1, SB.loop ⟨tm, ps, assign, body, .ready, none, nx⟩) :: (nx, .defd) :: H) = rho ν H := (new_rho q2 rfl ν).trans hρ1
      have hd : denH ν ((nx + 1, SB.loop ⟨tm, ps, assign, body, .ready, none, nx⟩) :: (nx, .defd) :: H) = (nx + 1, .loop (newLoop (denL (rho ν H) tm) ps assign body nx)) :: (nx, .defd) :: denH ν H := by
        rw [new_den q2 rfl (x := .loop (denLoop (rho ν H) ⟨tm, ps, assign, body, .ready, none, nx⟩)) (by simp only [denB, hρ1]), new_den q1 rfl (x := .defd) rfl]
        rfl
      rw [hρ2, hd] at o3
      have hg' := sopv_den hg ν
      simp only [den] at hg'
      have hargs : denL (rho ν H) (fs ++ (.yld (nx + 1) :: cs)) = denL (rho ν H) fs ++ [.func (.yield (nx + 1)) #[] #[]] ++ denL (rho ν H) cs := by simp [denL_map, den]
      rw [hargs] at o3
      have key := codeOk_rangeFunc (P := P) (g := g) (ps := ps) (assign := assign) (body := body) (tm := denL (rho ν H) tm) (ds := ds) (nx := nx) hs hfn hb hg' (by simpa using o3) (by rw [denH_get, hl]; rfl) (afterE_loop (L := denLoop (rho ν H3) L) he)
      refine codeOk_weak key rfl rfl rfl (fun φ K w g => g.sub fun c x hx => abs_den hl c x hx) (fun φ ts ht => ?_)
      refine trel_reg ν (fun c x hx => ?_) ht
      rw [abs_reg hl]
      exact a1 c x (new_reg q2 c x (new_reg q1 c x hx))
  · rename_i l0
    split at h
    case h_2 => cases h
    rename_i L0 hl0
    split at h
    case h_2 => cases h
    rename_i H2 hn2
    obtain ⟨q2, rfl⟩ := newS_some hn2
    obtain ⟨v, H3, nx3, ⟨⟨fn, hfn, hb⟩, a1, a2, a3, a4⟩, h2⟩ := hE.call h
    split at h2
    case h_2 => cases h2
    rename_i L hl
    split at h2
    case h_2 => cases h2
    rename_i e he
    refine ⟨_, ⟨?_, ?_, Same.refl _ _, ?_, fun ν hv => ?_⟩, h2⟩
    · exact fun c x hx => by
        rw [abs_reg hl]
        exact a1 c x (new_reg q2 c x hx)
    · intro m M hm
      have hne : m ≠ nx := fun e => by subst e; rw [q2] at hm; cases hm
      obtain ⟨s, p, h3⟩ := (new_lkeep q2).trans a2 m M hm
      exact ⟨s, p, by rw [sget_set, if_neg hne]; exact h3⟩
    · exact Nat.le_trans (by omega) a3
    · have v2 : VN ν (nx + 1) ((nx, .loop ⟨tm, ps, assign, body, .ready, none, L0.dfr⟩) :: H) := new_vn hv
      obtain ⟨v3, o3⟩ := a4 ν v2
      refine ⟨vn_congr (abs_reg hl) (abs_nn hl) v3, ?_⟩
      have hρ2 : rho ν ((nx, SB.loop ⟨tm, ps, assign, body, .ready, none, L0.dfr⟩) :: H) = rho ν H := new_rho q2 rfl ν
      have hd : denH ν ((nx, SB.loop ⟨tm, ps, assign, body, .ready, none, L0.dfr⟩) :: H) = (nx, .loop (newLoop (denL (rho ν H) tm) ps assign body L0.dfr)) :: denH ν H := by
        rw [new_den q2 rfl (x := .loop (denLoop (rho ν H) ⟨tm, ps, assign, body, .ready, none, L0.dfr⟩)) rfl]
        rfl
      rw [hρ2, hd] at o3
      have hg' := sopv_den hg ν
      simp only [den] at hg'
      have hargs : denL (rho ν H) (fs ++ (.yld nx :: cs)) = denL (rho ν H) fs ++ [.func (.yield nx) #[] #[]] ++ denL (rho ν H) cs := by simp [denL_map, den]
      rw [hargs] at o3
      have key := codeOk_rangeFunc_in (P := P) (l0 := l0) (g := g) (ps := ps) (assign := assign) (body := body) (tm := denL (rho ν H) tm) (ds := ds) (nx := nx) (L0 := denLoop (rho ν H) L0) hs hfn hb hg' (by rw [denH_get, hl0]; rfl) (by simpa [denLoop] using o3) (by rw [denH_get, hl]; rfl) (afterE_loop (L := denLoop (rho ν H3) L) he)
      refine codeOk_weak key rfl rfl rfl (fun φ K w g => g.sub fun c x hx => abs_den hl c x hx) (fun φ ts ht => ?_)
      refine trel_reg ν (fun c x hx => ?_) ht
      rw [abs_reg hl]
      exact a1 c x (new_reg q2 c x hx)
end Go.Fz.Sy
/- The symbolic engine, part PB: a function's end, a function's call. -/
noncomputable section
namespace Go.Fz.Sy
set_option linter.unusedVariables false
set_option linter.unusedSimpArgs false
variable {P : Program} {φ : Ren} {K : Nat → Prop} {w : World} {R : Type}

def killS : List Nat → SH → Option SH
  | [], H => some H
  | d :: ds, H => match sget H d with
    | some .defd => killS ds (sset H d .abs)
    | _ => none
theorem defd_reg {H : SH} {d : Nat} (hd : sget H d = some .defd) (c : Nat) : reg (sget (sset H d .abs) c) = reg (sget H c) := by
  rw [sget_set]
  by_cases h : c = d
  · subst h; simp [hd, reg]
  · rw [if_neg h]
theorem defd_nn {H : SH} {d : Nat} (hd : sget H d = some .defd) (c : Nat) (h : notNil (sget (sset H d .abs) c) = true) : notNil (sget H c) = true := by
  rw [sget_set] at h
  by_cases hc : c = d
  · subst hc; simp [hd, notNil] at h
  · rwa [if_neg hc] at h
theorem killS_ok {ν : Nat → Bool} : ∀ {ds : List Nat} {H H1 : SH} {Hd : Hp}, (∀ b, Hd.get b = (denH ν H).get b) → killS ds H = some H1 → ∃ Hd1, killDs ds Hd = some Hd1 ∧ (∀ b, Hd1.get b = (denH ν H1).get b)
  | [], H, H1, Hd, hg, h => by simp only [killS, Option.some.injEq] at h; subst h; exact ⟨Hd, rfl, hg⟩
  | d :: ds, H, H1, Hd, hg, h => by
    simp only [killS] at h
    split at h
    case h_2 => cases h
    rename_i hd
    have h1 : Hd.get d = some .defd := by rw [hg, denH_get, hd]; rfl
    simp only [killDs, h1]
    refine killS_ok (fun b => ?_) h
    rw [Hp.get_del, denH_get, sget_set, rho_congr (defd_reg hd)]
    by_cases hb : b = d
    · subst hb; simp [hd, denB]
    · rw [if_neg hb, if_neg hb, hg, denH_get]
theorem killS_reg : ∀ {ds : List Nat} {H H1 : SH}, killS ds H = some H1 → (∀ c, reg (sget H1 c) = reg (sget H c)) ∧ (∀ c, notNil (sget H1 c) = true → notNil (sget H c) = true) ∧ LKeep H H1
  | [], H, H1, h => by simp only [killS, Option.some.injEq] at h; subst h; exact ⟨fun _ => rfl, fun _ h => h, LKeep.refl _⟩
  | d :: ds, H, H1, h => by
    simp only [killS] at h
    split at h
    case h_2 => cases h
    rename_i hd
    obtain ⟨h1, h2, h3⟩ := killS_reg h
    exact ⟨fun c => (h1 c).trans (defd_reg hd c), fun c hc => defd_nn hd c (h2 c hc), (lkeep_set hd (fun L => by simp)).trans h3⟩
def resS (P : Program) (H : SH) (tm : List SV) : List ResultVar → Option (List SV)
  | [] => some []
  | .tmp t :: rs => match sopv tm H (.tmp t), resS P H tm rs with
    | some v, some vs => some (v :: vs)
    | _, _ => none
  | .cell a t :: rs => match sopv tm H (.tmp a), resS P H tm rs with
    | some (.ptr b o), some vs => match loadS P H t (.ptr b o) with
      | some v => some (v :: vs)
      | none => none
    | _, _ => none
theorem load_get {Hd Hd2 : Hp} (h : ∀ b, Hd.get b = Hd2.get b) (t : TypeId) (v : Value) : doLoad P Hd t v = doLoad P Hd2 t v := by
  unfold doLoad
  split
  · rw [h]
  · rfl
theorem resS_ok {ν : Nat → Bool} {H0 H : SH} {Hd : Hp} (hg : ∀ b, Hd.get b = (denH ν H).get b) {tm : List SV} (hr : rho ν H0 = rho ν H) : ∀ {rs : List ResultVar} {vs : List SV}, resS P H tm rs = some vs → resA P Hd (denL (rho ν H0) tm) rs = some (denL (rho ν H) vs)
  | [], vs, h => by simp only [resS, Option.some.injEq] at h; subst h; simp [resA, denL]
  | .tmp t :: rs, vs, h => by
    simp only [resS] at h
    split at h
    · rename_i v us h1 h2
      cases h
      have e1 := sopv_den h1 ν
      simp only [resA, resS_ok hg hr h2, denL]
      rw [hr, e1]
    · cases h
  | .cell a t :: rs, vs, h => by
    simp only [resS] at h
    split at h
    · rename_i b o us h1 h2
      split at h
      case h_2 => cases h
      rename_i v hv
      cases h
      have e1 := sopv_den h1 ν
      have e2 := loadS_den (ν := ν) hv
      have e3 : doLoad P (denH ν H) t (den (rho ν H) (.ptr b o)) = some (den (rho ν H) v) := by
        cases hd : doLoad P (denH ν H) t (den (rho ν H) (.ptr b o)) with
        | some u => rw [hd] at e2; exact e2
        | none => rw [hd] at e2; simp [den, fzLoad, fpOf] at e2
      simp only [resA, resS_ok hg hr h2, denL]
      rw [hr, e1, Option.bind_some, load_get hg, e3]
    · cases h
def retS : List SV → SV
  | [v] => v
  | vs => .tup vs
theorem retS_den (ρ : Nat → Value) : ∀ vs : List SV, den ρ (retS vs) = retV (denL ρ vs)
  | [] => by simp [retS, den, denL, retV]
  | [v] => by simp [retS, denL, retV]
  | _ :: _ :: _ => by simp [retS, den, denL, retV]
def isEnd : Exit → Bool
  | .normal => true
  | .ret => true
  | _ => false
/-- A function's call, step by step. -/
def callK (P : Program) (E : EvS R) (f : FuncId) (args : List SV) (H : SH) (nx : Nat) (k : KO R) : Option R := match funF P f with
  | some fn => match fn.body with
    | some c => E.code none c (args ++ List.replicate (fn.ntmps - args.length) (.tup [])) [] H nx fun S => bif isEnd S.e then match killS S.ds S.H with
      | some H1 => match resS P H1 S.tm fn.results.toList with
        | some vs => k (retS vs) H1 S.nx
        | none => none
      | none => none
      else none
    | none => none
  | none => none
theorem denL_replicate (ρ : Nat → Value) (n : Nat) : denL ρ (List.replicate n (.tup [])) = List.replicate n undef := by
  simp [denL_map, den, undef, denL]
theorem callK_ok {E : EvS R} (hE : E.Ok P) {f : FuncId} {args : List SV} {H : SH} {nx : Nat} {k : KO R} {r : R} (h : callK P E f args H nx k = some r) : ∃ v H' nx', SCall P f args H nx v H' nx' ∧ k v H' nx' = some r := by
  unfold callK at h
  split at h
  case h_2 => cases h
  rename_i fn hfn
  rw [funF_eq] at hfn
  split at h
  case h_2 => cases h
  rename_i c hb
  obtain ⟨S, ⟨a1, a2, a3, a4, a5⟩, h1⟩ := hE.code h
  have h6 := cond_some h1
  clear h1
  obtain ⟨he, h1⟩ := h6
  split at h1
  case h_2 => cases h1
  rename_i H1 hk
  split at h1
  case h_2 => cases h1
  rename_i vs hv
  obtain ⟨k1, k2, k3⟩ := killS_reg hk
  refine ⟨_, _, _, ⟨⟨fn, hfn, by rw [hb]; rfl⟩, fun c x hx => by rw [k1 c]; exact a1 c x hx, a2.trans k3, a4, fun ν hv2 => ?_⟩, h1⟩
  obtain ⟨v1, o1⟩ := a5 ν hv2
  refine ⟨vn_congr k1 k2 v1, ?_⟩
  obtain ⟨Hd1, e1, e2⟩ := killS_ok (ν := ν) (fun _ => rfl) hk
  have hr := resS_ok (P := P) (ν := ν) (H0 := S.H) e2 (rho_congr k1 ν).symm hv
  have hlen : (denL (rho ν H) args).length = args.length := denL_length _ _
  have o1' : CodeOk P none c (denL (rho ν H) args ++ List.replicate (fn.ntmps - (denL (rho ν H) args).length) undef) [] (denH ν H) nx (denR ν S) := by
    rw [hlen, ← denL_replicate (rho ν H), denL_map, denL_map, ← List.map_append, ← denL_map]
    exact o1
  have key := callOk_of (P := P) (f := f) (R := denR ν S) (H2 := Hd1) hfn hb o1' (by
    unfold isEnd at he
    show S.e = .normal ∨ S.e = .ret
    split at he <;> simp_all) e1 hr (fun _ _ h => h)
  rw [retS_den]
  exact callOk_sub key fun b x hx => by rw [e2]; exact hx
end Go.Fz.Sy
/- The symbolic engine, part Q: contracts: what a function makes of data. -/
noncomputable section
namespace Go.Fz.Sy
set_option linter.unusedVariables false
set_option linter.unusedSimpArgs false
variable {P : Program} {φ : Ren} {K : Nat → Prop} {w : World} {R : Type}

/-! ### Data need no names -/
theorem enc_facts {φ φ0 : Ren} (hF : ∀ b L, φ (FZ + b) = some L → φ0 (FZ + b) = some L) : ∀ (t : Ty) (x : T t) (c : Value), c ∈ encC t x → ∀ v', VRel φ c v' → VRel φ0 c v'
  | .unit, x, c, hc, v', h => by simp [encC] at hc
  | .bool, x, c, hc, v', h => by
    simp only [encC, List.mem_singleton] at hc
    subst hc; cases h; exact .bool _
  | .int k, x, c, hc, v', h => by
    simp only [encC, List.mem_singleton] at hc
    subst hc; cases h; exact .int _ _
  | .str, x, c, hc, v', h => by
    simp only [encC, List.mem_singleton] at hc
    subst hc; cases h; exact .str _
  | .list t, l, c, hc, v', h => by
    simp only [encC, List.mem_singleton] at hc
    subst hc
    unfold fzV at h ⊢
    simp only [cond_false] at h ⊢
    generalize hs : sz t = s at h ⊢
    generalize he : (List.map (fun x => Value.agg (encC t x).toArray) l).toArray = es at h ⊢
    cases h with
    | fz _ _ b o c L hL hn ho hc hsz h =>
      refine .fz _ _ b o c L (hF b L hL) hn ho hc hsz fun j k e u u' h1 h2 h3 => ?_
      rw [← he] at h1
      simp only [List.getElem?_toArray, List.getElem?_map, Option.map_eq_some_iff] at h1
      obtain ⟨x, hx, rfl⟩ := h1
      refine enc_facts hF t x u ?_ u' (h j k (Value.agg (encC t x).toArray) u u' (by rw [← he]; simp [hx]) h2 h3)
      simp only [Value.cells, List.getElem?_toArray] at h2
      exact List.mem_of_getElem? h2
    | fz0 _ a c => exact .fz0 _ _ _
  | .pair a b, x, c, hc, v', h => by
    simp only [encC, List.mem_append] at hc
    rcases hc with hc | hc
    · exact enc_facts hF a x.1 c hc v' h
    · exact enc_facts hF b x.2 c hc v' h
theorem lrel_facts {φ φ0 : Ren} (hF : ∀ b L, φ (FZ + b) = some L → φ0 (FZ + b) = some L) {t : Ty} {x : T t} {us : List Value} (h : LRel φ (encC t x) us) : LRel φ0 (encC t x) us := by
  refine LRel.of_get h.length fun i v v' hv hv' => ?_
  obtain ⟨u, h1, h2⟩ := h.get hv
  rw [hv'] at h1; cases h1
  exact enc_facts hF t x v (List.mem_of_getElem? hv) _ h2
theorem mkV_facts {φ φ0 : Ren} (hF : ∀ b L, φ (FZ + b) = some L → φ0 (FZ + b) = some L) {ρ : Nat → Value} (t : VT) (x : T t.ty) {v' : Value} (h : VRel φ (den ρ (mkV t x)) v') : VRel φ0 (den ρ (mkV t x)) v' := by
  obtain ⟨ag, ty⟩ := t
  cases ag with
  | true =>
    simp only [mkV, cond_true, den] at h ⊢
    obtain ⟨ys, rfl, hl⟩ := h.agg_inv
    refine .agg' ?_
    rw [denL_map, encL_den] at hl ⊢
    simp only at hl ⊢
    exact lrel_facts hF (by simpa using hl)
  | false =>
    simp only [mkV, cond_false] at h ⊢
    have h2 := encL_den ρ ty x
    match he : encL ty x with
    | [v] =>
      rw [he] at h h2
      simp only [mk1, List.map_cons, List.map_nil] at h h2 ⊢
      exact enc_facts hF ty x _ (by rw [← h2]; simp) _ h
    | [] => rw [he] at h; simp [mk1, den] at h; exact (not_rel_junk h).elim
    | _ :: _ :: _ => rw [he] at h; simp [mk1, den] at h; exact (not_rel_junk h).elim

/-! ### Arguments and results -/
@[reducible] def prodTy (l : List VT) : Ty := List.rec (motive := fun _ => Ty) .unit (fun a _ ih => .pair a.ty ih) l
def cvArgs : (l : List VT) → List SV → SH → Option (T (prodTy l) × SH)
  | [], [], H => some ((), H)
  | a :: r, v :: vs, H => match cvV a v H with
    | some (x, H1) => match cvArgs r vs H1 with
      | some (y, H2) => some ((x, y), H2)
      | none => none
    | none => none
  | _, _, _ => none
def mkArgs : (l : List VT) → T (prodTy l) → List SV
  | [], _ => []
  | a :: r, x => mkV a x.1 :: mkArgs r x.2
theorem cvArgs_ok : ∀ {l : List VT} {vs : List SV} {H H' : SH} {x : T (prodTy l)}, cvArgs l vs H = some (x, H') →
    Ghost H H' ∧ ∀ ν G, GLe H' G → ∀ (φ : Ren) (K : Nat → Prop) (w : World) (nx : Nat) (us : List Value), Good φ (denH ν G) K w → VN ν nx G → LRel φ (denL (rho ν H) vs) us → ∀ ρ, LRel φ (denL ρ (mkArgs l x)) us
  | [], [], H, H', x, h => by
    simp only [cvArgs] at h
    cases h
    exact ⟨Ghost.refl _, fun ν G hG φ K w nx us g hv hr ρ => by simpa [denL, mkArgs] using hr⟩
  | a :: r, v :: vs, H, H', x, h => by
    simp only [cvArgs] at h
    split at h
    case h_2 => cases h
    rename_i x1 H1 h1
    split at h
    case h_2 => cases h
    rename_i y H2 h2
    cases h
    obtain ⟨g1, r1⟩ := cvV_ok h1
    obtain ⟨g2, r2⟩ := cvArgs_ok h2
    refine ⟨g1.trans g2, fun ν G hG φ K w nx us g hv hr ρ => ?_⟩
    match us, hr with
    | [], hr => simp [denL, LRel] at hr
    | u :: us, hr =>
      simp only [denL, LRel, mkArgs] at hr ⊢
      refine ⟨r1 ν G (g2.1.trans hG) φ K w nx u g hv hr.1 ρ, r2 ν G hG φ K w nx us g hv ?_ ρ⟩
      rw [g1.1.rho ν]; exact hr.2
  | [], _ :: _, _, _, _, h => by simp [cvArgs] at h
  | _ :: _, [], _, _, _, h => by simp [cvArgs] at h
theorem mkArgs_facts {φ φ0 : Ren} (hF : ∀ b L, φ (FZ + b) = some L → φ0 (FZ + b) = some L) {ρ : Nat → Value} : ∀ (l : List VT) (x : T (prodTy l)) {us : List Value}, LRel φ (denL ρ (mkArgs l x)) us → LRel φ0 (denL ρ (mkArgs l x)) us
  | [], x, [], h => trivial
  | [], x, _ :: _, h => by simp [mkArgs, denL, LRel] at h
  | a :: r, x, [], h => by simp [mkArgs, denL, LRel] at h
  | a :: r, x, u :: us, h => by
    simp only [mkArgs, denL, LRel] at h ⊢
    exact ⟨mkV_facts hF a x.1 h.1, mkArgs_facts hF r x.2 h.2⟩
/-- The results as one value. -/
theorem retS_facts {φ φ0 : Ren} (hF : ∀ b L, φ (FZ + b) = some L → φ0 (FZ + b) = some L) {ρ : Nat → Value} (l : List VT) (x : T (prodTy l)) {v' : Value} (h : VRel φ (den ρ (retS (mkArgs l x))) v') : VRel φ0 (den ρ (retS (mkArgs l x))) v' := by
  rw [retS_den] at h ⊢
  have key := fun (us : List Value) (hr : LRel φ (denL ρ (mkArgs l x)) us) => mkArgs_facts hF l x hr
  generalize denL ρ (mkArgs l x) = vs at h key
  match vs, h, key with
  | [], h, key =>
    simp only [retV] at h ⊢
    obtain ⟨ys, rfl, hl⟩ := h.tuple_inv
    exact .tuple' (key _ hl)
  | [v], h, key =>
    simp only [retV] at h ⊢
    exact (key [v'] ⟨h, trivial⟩).1
  | a :: b :: r, h, key =>
    simp only [retV] at h ⊢
    obtain ⟨ys, rfl, hl⟩ := h.tuple_inv
    exact .tuple' (key _ hl)

/-- A contract: what a function makes of data. -/
structure Con where
  args : List VT
  res : List VT
  F : T (prodTy args) → Option (T (prodTy res))
def Con.Ok (P : Program) (f : FuncId) (c : Con) : Prop := (∃ fn, P.funcs[f]? = some fn ∧ fn.body.isSome = true) ∧
  ∀ x r, c.F x = some r → ∃ Hd nx', nx' ≤ FZ ∧ CallOk P f (denL (fun _ => bad) (mkArgs c.args x)) [] 0 (den (fun _ => bad) (retS (mkArgs c.res r))) Hd nx'
/-- A call that needs no names, wherever it stands. -/
theorem call_data {f : FuncId} {args : List Value} {Hd : Hp} {nx' : Nat} {v : Value} (hz : nx' ≤ FZ) (h : CallOk P f args [] 0 v Hd nx') (ha : ∀ φ φ0 : Ren, (∀ b L, φ (FZ + b) = some L → φ0 (FZ + b) = some L) → ∀ us, LRel φ args us → LRel φ0 args us)
    (hv : ∀ φ φ0 : Ren, (∀ b L, φ (FZ + b) = some L → φ0 (FZ + b) = some L) → ∀ v', VRel φ v v' → VRel φ0 v v') (H : Hp) (nx : Nat) : CallOk P f args H nx v H nx := by
  refine ⟨Nat.le_refl _, fun φ w K us g hf hl => ?_⟩
  let φ0 : Ren := fun b => if FZ ≤ b then φ b else none
  have e0 : ∀ b, φ0 (FZ + b) = φ (FZ + b) := fun b => by simp only [φ0, show FZ ≤ FZ + b by omega, if_true]
  have g0 : Good φ0 [] (fun c => c < w.heap.size) w := ⟨fun b k hb => by simp [Hp.get_nil] at hb, fun b c k k' L L' hb => by simp [Hp.get_nil] at hb, fun b k L hb => by simp [Hp.get_nil] at hb, fun c hc => hc, fun b L hL => g.fz b L (by rw [← e0]; exact hL), fun b k L c M hb => by simp [Hp.get_nil] at hb⟩
  refine Calls.mono (h.2 φ0 w (fun c => c < w.heap.size) us g0 ⟨hz, fun b _ hb => by simp only [φ0, show ¬ FZ ≤ b by omega, if_false]⟩ (ha φ φ0 (fun b L hL => by rw [e0]; exact hL) us hl)) ?_
  rintro e w' ⟨v', φ', rfl, x1, x2, x3, x4⟩
  let φ2 : Ren := fun b => if FZ ≤ b then φ' b else φ b
  have e2 : ∀ b, φ2 (FZ + b) = φ' (FZ + b) := fun b => by simp only [φ2, show FZ ≤ FZ + b by omega, if_true]
  have e3 : ∀ b, b < FZ → φ2 b = φ b := fun b hb => by simp only [φ2, show ¬ FZ ≤ b by omega, if_false]
  have hle : φ.le φ2 := fun b L hb => by
    by_cases hz : FZ ≤ b
    · simp only [φ2, hz, if_true]
      exact x2.1 b L (by simp only [φ0, hz, if_true]; exact hb)
    · simp only [φ2, hz, if_false]; exact hb
  have hnew : ∀ b L, φ2 (FZ + b) = some L → φ (FZ + b) = some L ∨ ¬ b < w.heap.size := fun b L hL => by
    rw [e2] at hL
    rcases x2.2.2 b L hL with h1 | h1
    · rw [e0] at h1; exact .inl h1
    · exact .inr h1
  have hname : ∀ b k, H.get b = some k → b < FZ ∨ ∃ L, φ b = some L := fun b k hb => by
    obtain ⟨L, hL, _⟩ := g.rel b k hb
    exact .inr ⟨L, hL⟩
  have hφ2 : ∀ b k L, H.get b = some k → φ2 b = some L → φ b = some L := fun b k L hb hL => by
    obtain ⟨M, hM, _⟩ := g.rel b k hb
    have := hle b M hM
    rw [hL] at this; cases this; exact hM
  refine ⟨v', φ2, rfl, hv φ' φ2 (fun b L hL => by rw [e2]; exact hL) v' x1, ⟨hle, fun b hz _ => e3 b hz, fun b L hL => (hnew b L hL).imp id fun h1 h2 => h1 (g.kin b h2)⟩, ?_, ⟨x4.os, x4.tape, x4.output, x4.size, fun c hc => x4.kept c (g.kin c hc)⟩⟩
  refine ⟨fun b k hb => ?_, fun b c k k' L L' hb hc hne hkr hL hL' => g.sep b c k k' L L' hb hc hne hkr (hφ2 b k L hb hL) (hφ2 c k' L' hc hL'), fun b k L hb hkr hL => g.prot b k L hb hkr (hφ2 b k L hb hL), fun c hc => Nat.lt_of_lt_of_le (g.kin c hc) x4.size, fun b L hL => x3.fz b L (by rw [← e2]; exact hL), fun b k L c M hb hkr hL hM => ?_⟩
  · obtain ⟨L, hL, hB⟩ := g.rel b k hb
    exact ⟨L, hle b L hL, (hB.congr (x4.kept L.blk hB.lt)).mono hle⟩
  · have hL1 := hφ2 b k L hb hL
    rcases hnew c M hM with h1 | h1
    · exact g.fsep b k L c M hb hkr hL1 h1
    · have := (g.at hb hL1).lt
      omega
/-- A call by its contract. -/
def conK (c : Con) (args : List SV) (H : SH) (nx : Nat) (k : KO R) : Option R := match cvArgs c.args args H with
  | some (x, H1) => opt (c.F x) fun r => k (retS (mkArgs c.res r)) H1 nx
  | none => none
theorem denL_any (l : List VT) (x : T (prodTy l)) (ρ ρ' : Nat → Value) : denL ρ (mkArgs l x) = denL ρ' (mkArgs l x) := by
  have hc : ∀ (t : Ty) (y : T t), denL ρ (encL t y) = denL ρ' (encL t y) := fun t y => by rw [denL_map, denL_map, encL_den, encL_den]
  have hv : ∀ (t : VT) (y : T t.ty), den ρ (mkV t y) = den ρ' (mkV t y) := fun t y => by
    obtain ⟨ag, ty⟩ := t
    cases ag with
    | true => simp only [mkV, cond_true, den]; rw [hc ty y]
    | false =>
      simp only [mkV, cond_false]
      have := hc ty y
      match he : encL ty y with
      | [v] => rw [he] at this; simpa [mk1, denL] using this
      | [] => simp [mk1, den]
      | _ :: _ :: _ => simp [mk1, den]
  induction l with
  | nil => rfl
  | cons a r ih => simp only [mkArgs, denL, hv a x.1, ih x.2]
theorem conK_ok {f : FuncId} {c : Con} (hc : c.Ok P f) {args : List SV} {H : SH} {nx : Nat} {k : KO R} {r : R} (h : conK c args H nx k = some r) : ∃ v H' nx', SCall P f args H nx v H' nx' ∧ k v H' nx' = some r := by
  unfold conK at h
  split at h
  case h_2 => cases h
  rename_i x H1 hx
  obtain ⟨y, hy, h2⟩ := opt_some h
  obtain ⟨hg, hr⟩ := cvArgs_ok hx
  obtain ⟨Hd, n1, hz, hcall⟩ := hc.2 x y hy
  refine ⟨_, _, _, ⟨hc.1, hg.1.regLe, hg.1.lkeep, Nat.le_refl _, fun ν hv => ⟨hg.1.vn hv, Nat.le_refl _, fun φ w K us g hf hl => ?_⟩⟩, h2⟩
  obtain ⟨φ1, e1, g1⟩ := hg.2 ν φ K w g
  have hl1 := hr ν H1 (GLe.refl _) φ1 K w nx us g1 (hg.1.vn hv) (hl.mono (e1 0).1) (fun _ => bad)
  have hd := call_data hz hcall (fun φ φ0 hF us h => mkArgs_facts hF c.args x h) (fun φ φ0 hF v' h => retS_facts hF c.res y h) (denH ν H1) nx
  refine Calls.mono (hd.2 φ1 w K us g1 (fresh_ext (mid := 0) hf e1) hl1) ?_
  rintro e w' ⟨v', φ', rfl, x1, x2, x3, x4⟩
  refine ⟨v', φ', rfl, ?_, (e1 nx).comp x2, x3, x4⟩
  rw [retS_den] at x1 ⊢
  rwa [denL_any c.res y (rho ν H1) (fun _ => bad)]
end Go.Fz.Sy
/- The symbolic engine, part S: typed loops, seen from the world. -/
noncomputable section
namespace Go.Fz.Sy
set_option linter.unusedVariables false
set_option linter.unusedSimpArgs false
variable {P : Program} {φ : Ren} {K : Nat → Prop} {w : World} {R : Type}

/-- Rounds, at most n. -/
def iterK {X S : Type} (B : S → Option (X ⊕ S)) (n : Nat) : S → Option X :=
  Nat.rec (motive := fun _ => S → Option X) (fun _ => none) (fun _ ih s => match B s with
    | some (.inl x) => some x
    | some (.inr s') => ih s'
    | none => none) n
theorem iterK_succ {X S : Type} (B : S → Option (X ⊕ S)) (n : Nat) (s : S) : iterK B (n + 1) s = match B s with
    | some (.inl x) => some x
    | some (.inr s') => iterK B n s'
    | none => none := rfl
theorem rounds_iter {X S : Type} {B : S → Option (X ⊕ S)} {c : Code} {F : Fence} {Inv : S → Act → World → Prop} {Fin : X → Exit → Act → World → Prop}
    (h : ∀ s r, B s = some r → ∀ a w, Inv s a w → c.wpIn F 0 P (fun e a' w' => match r with | .inl x => e ≠ .normal ∧ Fin x e a' w' | .inr s' => e = .normal ∧ Inv s' a' w') a w) :
    ∀ (N : Nat) (s : S) (x : X), iterK B N s = some x → ∀ a w, Inv s a w → Code.roundsIn F 0 P c (Fin x) N a w
  | 0, s, x, hi, a, w, hI => by cases hi
  | N + 1, s, x, hi, a, w, hI => by
    rw [iterK_succ] at hi
    rw [roundsIn_succ]
    split at hi
    · rename_i y hB
      cases hi
      refine wpIn_mono (h s _ hB a w hI) ?_
      intro e a' w' hq
      obtain ⟨he, hf⟩ := hq
      cases e <;> first | exact absurd rfl he | exact hf
    · rename_i s' hB
      refine wpIn_mono (h s _ hB a w hI) ?_
      intro e a' w' hq
      obtain ⟨rfl, hI'⟩ := hq
      exact rounds_iter h N s' x hi a' w' hI'
    · cases hi

/-- The blocks that a loop turns, under their new names; and the others, which it only reads. -/
theorem good_fold {φ2 φ3 : Ren} {Hs Ht : Hp} (g : Good φ2 Hs K w) (src : Nat → Nat)
    (h : ∀ b k, Ht.get b = some k → (∃ k', Hs.get (src b) = some k' ∧ φ3 b = φ2 (src b) ∧ k'.rw = true ∧ ∀ L, BRel φ2 w L k' → BRel φ3 w L k) ∨ (k.rw = false ∧ ∃ L, φ3 b = some L ∧ BRel φ3 w L k ∧ K L.blk))
    (hi : ∀ b c k k', Ht.get b = some k → Ht.get c = some k' → k.rw = true → k'.rw = true → b ≠ c → src b ≠ src c)
    (hrw : ∀ b k, Ht.get b = some k → k.rw = false → (∃ L, φ3 b = some L ∧ BRel φ3 w L k ∧ K L.blk))
    (hf : ∀ b, φ3 (FZ + b) = φ2 (FZ + b)) : Good φ3 Ht K w := by
  have hT : ∀ b k, Ht.get b = some k → k.rw = true → ∃ k', Hs.get (src b) = some k' ∧ φ3 b = φ2 (src b) ∧ k'.rw = true ∧ ∀ L, BRel φ2 w L k' → BRel φ3 w L k := fun b k hb hk => by
    rcases h b k hb with h1 | ⟨h1, _⟩
    · exact h1
    · rw [hk] at h1; cases h1
  refine ⟨fun b k hb => ?_, fun b c k k' L L' hb hc hne hk hL hL' => ?_, fun b k L hb hk hL => ?_, g.kin, fun b L hL => g.fz b L (by rw [← hf]; exact hL), fun b k L c M hb hk hL hM => ?_⟩
  · rcases h b k hb with ⟨k', h1, h2, h3, h4⟩ | ⟨_, L, h1, h2, _⟩
    · obtain ⟨L, hL, hB⟩ := g.rel _ _ h1
      exact ⟨L, by rw [h2]; exact hL, h4 L hB⟩
    · exact ⟨L, h1, h2⟩
  · obtain ⟨kb, b1, b2, b3, b4⟩ := hT b k hb hk
    cases hk' : k'.rw with
    | true =>
      obtain ⟨kc, c1, c2, c3, c4⟩ := hT c k' hc hk'
      exact g.sep _ _ _ _ L L' b1 c1 (hi b c k k' hb hc hk hk' hne) b3 (by rw [← b2]; exact hL) (by rw [← c2]; exact hL')
    | false =>
      obtain ⟨M, m1, m2, m3⟩ := hrw c k' hc hk'
      rw [hL'] at m1; cases m1
      intro e
      exact g.prot _ _ L b1 b3 (by rw [← b2]; exact hL) (by rw [e]; exact m3)
  · obtain ⟨kb, b1, b2, b3, b4⟩ := hT b k hb hk
    exact g.prot _ _ L b1 b3 (by rw [← b2]; exact hL)
  · obtain ⟨kb, b1, b2, b3, b4⟩ := hT b k hb hk
    exact g.fsep _ _ L c M b1 b3 (by rw [← b2]; exact hL) (by rw [← hf]; exact hM)

/-- What the loop must leave alone. -/
def KX (K : Nat → Prop) (φE : Ren) (HR : Hp) (n : Nat) : Prop := K n ∨ ∃ b k L, HR.get b = some k ∧ φE b = some L ∧ L.blk = n
/-- The others again as they were. -/
theorem good_restore {φE φ1 : Ren} {HE HR H1 H2 : Hp} {wE : World} (gE : Good φE HE K wE) (hle : φE.le φ1) (hfz : ∀ b L, φ1 (FZ + b) = some L → φE (FZ + b) = some L ∨ ¬ KX K φE HR b)
    (hw : Went (KX K φE HR) wE w) (g : Good φ1 H1 (KX K φE HR) w)
    (h : ∀ b k, H2.get b = some k → (H1.get b = some k ∧ k.rw = true) ∨ (HE.get b = some k ∧ ∃ k', HR.get b = some k')) : Good φ1 H2 K w := by
  have hE : ∀ b k, HE.get b = some k → (∃ k', HR.get b = some k') → ∃ L, φE b = some L ∧ φ1 b = some L ∧ BRel φ1 w L k ∧ KX K φE HR L.blk := fun b k hb hr => by
    obtain ⟨k', hr⟩ := hr
    obtain ⟨L, hL, hB⟩ := gE.rel b k hb
    have hK : KX K φE HR L.blk := .inr ⟨b, k', L, hr, hL, rfl⟩
    exact ⟨L, hL, hle b L hL, (BRel.congr (hw.kept _ hK) hB).mono hle, hK⟩
  refine ⟨fun b k hb => ?_, fun b c k k' L L' hb hc hne hk hL hL' => ?_, fun b k L hb hk hL => ?_, fun c hc => g.kin c (.inl hc), g.fz, fun b k L c M hb hk hL hM => ?_⟩
  · rcases h b k hb with ⟨h1, _⟩ | ⟨h1, h2⟩
    · exact g.rel b k h1
    · obtain ⟨L, e1, e2, e3, e4⟩ := hE b k h1 h2
      exact ⟨L, e2, e3⟩
  · rcases h b k hb with ⟨h1, hk1⟩ | ⟨h1, h2⟩
    · rcases h c k' hc with ⟨c1, _⟩ | ⟨c1, c2⟩
      · exact g.sep b c k k' L L' h1 c1 hne hk hL hL'
      · obtain ⟨M, e1, e2, e3, e4⟩ := hE c k' c1 c2
        rw [hL'] at e2; cases e2
        intro e
        exact g.prot b k L h1 hk hL (by rw [e]; exact e4)
    · obtain ⟨M, e1, e2, e3, e4⟩ := hE b k h1 h2
      rw [hL] at e2; cases e2
      rcases h c k' hc with ⟨c1, ck⟩ | ⟨c1, c2⟩
      · intro e
        exact g.prot c k' L' c1 ck hL' (by rw [← e]; exact e4)
      · obtain ⟨M', e1', e2', _, _⟩ := hE c k' c1 c2
        rw [hL'] at e2'; cases e2'
        exact gE.sep b c k k' L L' h1 c1 hne hk e1 e1'
  · rcases h b k hb with ⟨h1, _⟩ | ⟨h1, h2⟩
    · exact fun hK => g.prot b k L h1 hk hL (.inl hK)
    · obtain ⟨M, e1, e2, e3, e4⟩ := hE b k h1 h2
      rw [hL] at e2; cases e2
      exact gE.prot b k L h1 hk e1
  · rcases h b k hb with ⟨h1, _⟩ | ⟨h1, h2⟩
    · exact g.fsep b k L c M h1 hk hL hM
    · obtain ⟨M', e1, e2, e3, e4⟩ := hE b k h1 h2
      rw [hL] at e2; cases e2
      rcases hfz c M hM with h3 | h3
      · exact gE.fsep b k L c M h1 hk e1 h3
      · intro e; exact h3 (by rw [← e]; exact e4)
end Go.Fz.Sy
/- The symbolic engine, part U: values that name only what was there before. -/
noncomputable section
namespace Go.Fz.Sy
set_option linter.unusedVariables false
set_option linter.unusedSimpArgs false
set_option linter.unusedSectionVars false
variable {P : Program} {φ : Ren} {K : Nat → Prop} {w : World} {R : Type}

def memN (l : List Nat) (n : Nat) : Bool := List.rec (motive := fun _ => Bool) false (fun x _ ih => bif Nat.beq x n then true else ih) l
theorem memN_cons (x : Nat) (l : List Nat) (n : Nat) : memN (x :: l) n = if x = n then true else memN l n := by
  show (bif Nat.beq x n then true else memN l n) = _
  rw [beq_if]
theorem memN_iff (n : Nat) : ∀ l : List Nat, memN l n = true ↔ n ∈ l
  | [] => by simp [memN]
  | x :: l => by
    rw [memN_cons]
    by_cases h : x = n
    · simp [h]
    · rw [if_neg h, memN_iff n l]
      simp [Ne.symm h]
mutual
/-- Names below lo, and of arrays only those in ns. -/
def lowV (ns : List Nat) (lo : Nat) : SV → Bool
  | .agg cs => lowL ns lo cs
  | .tup cs => lowL ns lo cs
  | .ptr b _ => Nat.blt b lo
  | .own b => memN ns b
  | .elp b _ _ _ => Nat.blt b lo
  | .fn _ fs cs => lowL ns lo fs && lowL ns lo cs
  | .yld l => Nat.blt l lo
  | .mp b => Nat.blt b lo
  | _ => true
def lowL (ns : List Nat) (lo : Nat) : List SV → Bool
  | [] => true
  | v :: r => lowV ns lo v && lowL ns lo r
end
/-- A frozen list needs no names. -/
theorem lst_facts {φ φ0 : Ren} (hF : ∀ b L, φ (FZ + b) = some L → φ0 (FZ + b) = some L) (t : Ty) (l : List (T t)) (full : Bool) {v' : Value} (h : VRel φ (fzV (sz t) full (l.map (encE t))) v') : VRel φ0 (fzV (sz t) full (l.map (encE t))) v' := by
  cases full with
  | false => exact enc_facts hF (.list t) l _ (by simp [encC, encE, fzV]) v' h
  | true =>
    unfold fzV at h ⊢
    simp only [cond_true] at h ⊢
    generalize hs : sz t = s at h ⊢
    generalize he : (List.map (encE t) l).toArray = es at h ⊢
    cases h with
    | fq _ _ b o L hL hn ho hsz h =>
      refine .fq _ _ b o L (hF b L hL) hn ho hsz fun j k e u u' h1 h2 h3 => ?_
      rw [← he] at h1
      simp only [List.getElem?_toArray, List.getElem?_map, Option.map_eq_some_iff] at h1
      obtain ⟨x, hx, rfl⟩ := h1
      refine enc_facts hF t x u ?_ u' (h j k (encE t x) u u' (by rw [← he]; simp [hx]) h2 h3)
      simp only [encE, Value.cells, List.getElem?_toArray] at h2
      exact List.mem_of_getElem? h2
    | fq0 _ a => exact .fq0 _ _
theorem fel_facts {φ φ0 : Ren} (hF : ∀ b L, φ (FZ + b) = some L → φ0 (FZ + b) = some L) (t : Ty) (x : T t) (k : Nat) {v' : Value} (h : VRel φ (.iface k (.iface 0 (encE t x))) v') : VRel φ0 (.iface k (.iface 0 (encE t x))) v' := by
  generalize he : encE t x = e at h ⊢
  cases h with
  | fp _ _ b o L hL ho h =>
    refine .fp _ _ b o L (hF b L hL) ho fun j u u' h1 h2 => ?_
    subst he
    refine enc_facts hF t x u ?_ u' (h j u u' h1 h2)
    simp only [encE, Value.cells, List.getElem?_toArray] at h1
    exact List.mem_of_getElem? h1
theorem slice_ren {φ2 φ3 : Ren} {b o n c : Nat} (h : φ3 b = φ2 b) {v' : Value} (hv : VRel φ2 (.slice (some ⟨b, o, none⟩) n c) v') : VRel φ3 (.slice (some ⟨b, o, none⟩) n c) v' := by
  cases hv with
  | sl _ _ _ _ L hL hc => exact .sl _ _ _ _ L (by rw [h]; exact hL) hc
  | slO _ _ _ _ c' L hL hc hn hl => exact .slO _ _ _ _ c' L (by rw [h]; exact hL) hc hn hl
  | slE _ _ _ a' L hL hc => exact .slE _ _ _ a' L (by rw [h]; exact hL) hc
theorem rho_ren {φ2 φ3 : Ren} {ν : Nat → Bool} {H : SH} {b : Nat} (h : φ3 b = φ2 b) {v' : Value} (hv : VRel φ2 (rho ν H b) v') : VRel φ3 (rho ν H b) v' := by
  unfold rho at hv ⊢
  split at hv
  · cases hv; exact .slN _ _
  · exact slice_ren h hv
  · exact (not_rel_bad hv).elim
section
variable {φ2 φ3 : Ren} {ν : Nat → Bool} {H2 H3 : SH} {ns : List Nat} {lo : Nat}
  (hφ : ∀ b, b < lo → φ3 b = φ2 b) (hF : ∀ b L, φ2 (FZ + b) = some L → φ3 (FZ + b) = some L)
  (hns : ∀ b ∈ ns, b < lo) (hr : ∀ b ∈ ns, reg (sget H3 b) = reg (sget H2 b))
include hφ hF hns hr
mutual
theorem low_ren : ∀ (v : SV) (v' : Value), lowV ns lo v = true → VRel φ2 (den (rho ν H2) v) v' → VRel φ3 (den (rho ν H3) v) v'
  | .bool _, _, _, hv => by simp only [den] at hv ⊢; cases hv; exact .bool _
  | .int _ _, _, _, hv => by simp only [den] at hv ⊢; cases hv; exact .int _ _
  | .str _, _, _, hv => by simp only [den] at hv ⊢; cases hv; exact .str _
  | .agg cs, v', hl, hv => by
    simp only [den] at hv ⊢
    simp only [lowV] at hl
    obtain ⟨ys, rfl, hq⟩ := hv.agg_inv
    exact .agg' (by simpa using lowL_ren cs ys.toList hl (by simpa using hq))
  | .tup cs, v', hl, hv => by
    simp only [den] at hv ⊢
    simp only [lowV] at hl
    obtain ⟨ys, rfl, hq⟩ := hv.tuple_inv
    exact .tuple' (by simpa using lowL_ren cs ys.toList hl (by simpa using hq))
  | .ptr b o, _, hl, hv => by
    simp only [den] at hv ⊢
    simp only [lowV, Nat.blt_eq] at hl
    cases hv with
    | ptr _ _ L hL => exact .ptr _ _ L (by rw [hφ b hl]; exact hL)
  | .nilp, _, _, hv => by simp only [den] at hv ⊢; cases hv; exact .ptrN
  | .lst t l f, _, _, hv => by simp only [den] at hv ⊢; exact lst_facts hF t l f hv
  | .own b, _, hl, hv => by
    simp only [den] at hv ⊢
    simp only [lowV] at hl
    have hb := (memN_iff _ _).1 hl
    have : rho ν H3 b = rho ν H2 b := by unfold rho; rw [hr b hb]
    rw [this]
    exact rho_ren (hφ b (hns b hb)) hv
  | .nils, _, _, hv => by simp only [den] at hv ⊢; cases hv; exact .slN _ _
  | .elp b s i k, _, hl, hv => by
    simp only [den] at hv ⊢
    simp only [lowV, Nat.blt_eq] at hl
    cases hv with
    | ptr _ _ L hL => exact .ptr _ _ L (by rw [hφ b hl]; exact hL)
  | .fel t x k, _, _, hv => by simp only [den] at hv ⊢; exact fel_facts hF t x k hv
  | .fn f fs cs, v', hl, hv => by
    simp only [den] at hv ⊢
    simp only [lowV, Bool.and_eq_true] at hl
    obtain ⟨fn', ys, us, rfl, hf, h1, h2⟩ := hv.func_inv
    refine .func' ?_ (by simpa using lowL_ren fs ys.toList hl.1 (by simpa using h1)) (by simpa using lowL_ren cs us.toList hl.2 (by simpa using h2))
    cases hf; exact .func _
  | .yld l, _, hl, hv => by
    simp only [den] at hv ⊢
    simp only [lowV, Nat.blt_eq] at hl
    obtain ⟨fn', ys, us, rfl, hf, h1, h2⟩ := hv.func_inv
    cases hf with
    | yield _ L hL => exact .func' (.yield _ L (by rw [hφ l hl]; exact hL)) (by have := h1.length; simp at this; simp [List.eq_nil_of_length_eq_zero this.symm, LRel]) (by have := h2.length; simp at this; simp [List.eq_nil_of_length_eq_zero this.symm, LRel])
  | .nilf, _, _, hv => by simp only [den] at hv ⊢; cases hv; exact .nilFunc
  | .mp b, _, hl, hv => by
    simp only [den] at hv ⊢
    simp only [lowV, Nat.blt_eq] at hl
    cases hv with
    | map _ L hL => exact .map _ L (by rw [hφ b hl]; exact hL)
  | .junk, _, _, hv => by simp only [den] at hv; exact (not_rel_junk hv).elim
theorem lowL_ren : ∀ (vs : List SV) (us : List Value), lowL ns lo vs = true → LRel φ2 (denL (rho ν H2) vs) us → LRel φ3 (denL (rho ν H3) vs) us
  | [], [], _, hr => trivial
  | [], _ :: _, _, hr => by simp [denL, LRel] at hr
  | v :: vs, [], _, hr => by simp [denL, LRel] at hr
  | v :: vs, u :: us, hl, hr => by
    simp only [lowL, Bool.and_eq_true] at hl
    simp only [denL, LRel] at hr ⊢
    exact ⟨low_ren v u hl.1 hr.1, lowL_ren vs us hl.2 hr.2⟩
end
end
theorem den_isjunk {ν : Nat → Bool} {H : SH} {v : SV} (h : den (rho ν H) v = Fz.junk) : v = .junk := by
  cases v <;> simp only [den, Fz.junk, reduceCtorEq] at h
  · simp [fzV] at h
  · exact absurd h (rho_junk ν H _)
  · rfl
end Go.Fz.Sy
/- The symbolic engine, part V: a loop's state as data: the places that it turns. -/
noncomputable section
namespace Go.Fz.Sy
set_option linter.unusedVariables false
set_option linter.unusedSimpArgs false
variable {P : Program} {φ : Ren} {K : Nat → Prop} {w : World} {R : Type}

/-- Cells of a block of variables: data, or a slice of our own. -/
inductive CK where
  | d (t : Ty)
  | o (c : Nat) (nn : Bool) (t : Ty)
@[reducible] def CK.T : CK → Type
  | .d t => Sy.T t
  | .o _ _ t => List (Sy.T t)
@[reducible] def CS (l : List CK) : Type := List.rec (motive := fun _ => Type) Unit (fun a _ ih => a.T × ih) l
/-- Places that hold data: a temporary, a block of variables; or a block whose lists are to be frozen. -/
inductive DPl where
  | tmp (i : Nat) (vt : VT)
  | blk (b : Nat) (t : Ty)
  | frz (b : Nat) (ks : List CK)
/-- Places of our own arrays: a temporary that holds a slice which may be nil or given a new array (c: its name), a block with such a slice, an array's elements; records of loops; blocks of deferred calls. -/
inductive OPl where
  | otmp (i c : Nat) (nn : Bool) (t : Ty)
  | sblk (b : Nat) (ks : List CK)
  | arr (b : Nat) (nn : Bool) (t : Ty)
  | lp (l : Nat) (L : SL)
  | dfd (b : Nat)
  | mpl (b : Nat) (k : IntKind) (ag : Bool) (t : Ty)
@[reducible] def DPl.T : DPl → Type
  | .tmp _ vt => Sy.T vt.ty
  | .blk _ t => Sy.T t
  | .frz _ _ => Unit
@[reducible] def OPl.T : OPl → Type
  | .otmp _ _ _ t => List (Sy.T t)
  | .sblk _ ks => CS ks
  | .arr _ _ t => List (Sy.T t)
  | .lp _ _ => Unit
  | .dfd _ => Unit
  | .mpl _ _ _ t => List (Int × Sy.T t)
@[reducible] def DS (l : List DPl) : Type := List.rec (motive := fun _ => Type) Unit (fun a _ ih => a.T × ih) l
@[reducible] def OS (l : List OPl) : Type := List.rec (motive := fun _ => Type) Unit (fun a _ ih => a.T × ih) l
abbrev LSt := LoopState × Option Code

def tmD : (dl : List DPl) → DS dl → List SV → List SV
  | [], _, tm => tm
  | .tmp i vt :: r, x, tm => tmD r x.2 (lsS tm i (mkV vt x.1))
  | .blk _ _ :: r, x, tm => tmD r x.2 tm
  | .frz _ _ :: r, x, tm => tmD r x.2 tm
def tmO : (ol : List OPl) → OS ol → List SV → List SV
  | [], _, tm => tm
  | .otmp i c _ _ :: r, y, tm => tmO r y.2 (lsS tm i (.own c))
  | .sblk _ _ :: r, y, tm => tmO r y.2 tm
  | .arr _ _ _ :: r, y, tm => tmO r y.2 tm
  | .lp _ _ :: r, y, tm => tmO r y.2 tm
  | .dfd _ :: r, y, tm => tmO r y.2 tm
  | .mpl _ _ _ _ :: r, y, tm => tmO r y.2 tm
def hpD : (dl : List DPl) → DS dl → SH
  | [], _ => []
  | .tmp _ _ :: r, x => hpD r x.2
  | .blk b t :: r, x => (b, .vars (encL t x.1)) :: hpD r x.2
  | .frz _ _ :: r, x => hpD r x.2
def encK : (ks : List CK) → CS ks → List SV
  | [], _ => []
  | .d t :: r, x => encL t x.1 ++ encK r x.2
  | .o c _ _ :: r, x => .own c :: encK r x.2
def arrsK : (ks : List CK) → CS ks → SH
  | [], _ => []
  | .d _ :: r, x => arrsK r x.2
  | .o c nn t :: r, x => (c, .arr nn t x.1) :: arrsK r x.2
def stO (L : SL) : List LSt → SL
  | [] => L
  | s :: _ => { L with st := s.1, pend := s.2 }
def hpO : (ol : List OPl) → List LSt → OS ol → SH
  | [], _, _ => []
  | .otmp _ c nn t :: r, vs, y => (c, .arr nn t y.1) :: hpO r vs y.2
  | .sblk b ks :: r, vs, y => (b, .vars (encK ks y.1)) :: (arrsK ks y.1 ++ hpO r vs y.2)
  | .arr b nn t :: r, vs, y => (b, .arr nn t y.1) :: hpO r vs y.2
  | .lp l L :: r, vs, y => (l, .loop (stO L vs)) :: hpO r vs.tail y.2
  | .dfd b :: r, vs, y => (b, .defd) :: hpO r vs y.2
  | .mpl b k ag t :: r, vs, y => (b, .mpb k ag t y.1) :: hpO r vs y.2

/-! ### Reading a state -/
/-- Lists frozen. -/
def frzK : (ks : List CK) → List SV → SH → Option SH
  | [], _, H => some H
  | .d t :: r, us, H => match cvC t us H with
    | some (_, us1, H1) => frzK r us1 H1
    | none => none
  | .o _ _ _ :: r, _ :: us, H => frzK r us H
  | .o _ _ _ :: _, [], _ => none
theorem frzK_ghost : ∀ {ks : List CK} {us : List SV} {H H1 : SH}, frzK ks us H = some H1 → Ghost H H1
  | [], us, H, H1, h => by simp only [frzK] at h; cases h; exact Ghost.refl _
  | .d t :: r, us, H, H1, h => by
    simp only [frzK] at h
    split at h
    · rename_i x us1 H2 h2
      obtain ⟨cs, _, g, _⟩ := cvC_ok t h2
      exact g.trans (frzK_ghost h)
    · cases h
  | .o _ _ _ :: r, u :: us, H, H1, h => by
    simp only [frzK] at h
    exact frzK_ghost h
  | .o _ _ _ :: _, [], _, _, h => by simp [frzK] at h
/-- Cells read as data where nothing needs freezing. -/
def pcC : (t : Ty) → List SV → SH → Option (T t × List SV)
  | .unit, l, H => some ((), l)
  | .bool, l, H => match l with
    | .bool b :: r => some (b, r)
    | _ => none
  | .int k, l, H => match l with
    | .int k' n :: r => bif keqF k k' then some (n, r) else none
    | _ => none
  | .str, l, H => match l with
    | .str s :: r => some (s, r)
    | _ => none
  | .list t, l, H => match l with
    | .lst t' x _ :: r => if h : t' = t then some (castL h x, r) else none
    | .nils :: r => some (([] : List (T t)), r)
    | .own b :: r => match sget H b with
      | some (.fro _ t' x) => if h : t' = t then bif Nat.blt 0 (sz t) then some (castL h x, r) else none else none
      | _ => none
    | _ => none
  | .pair a b, l, H => match pcC a l H with
    | some (x, l1) => match pcC b l1 H with
      | some (y, l2) => some ((x, y), l2)
      | none => none
    | none => none
theorem pcC_cv : ∀ (t : Ty) {l r : List SV} {H : SH} {x : T t}, pcC t l H = some (x, r) → cvC t l H = some (x, r, H)
  | .unit, l, r, H, x, h => by simp only [pcC] at h; cases h; rfl
  | .bool, l, r, H, x, h => by
    simp only [pcC] at h
    split at h
    · cases h; rfl
    · cases h
  | .int k, l, r, H, x, h => by
    simp only [pcC] at h
    split at h
    · rename_i k' n r'
      obtain ⟨hk, h2⟩ := cond_some h
      cases h2
      simp only [cvC, hk, cond_true]
    · cases h
  | .str, l, r, H, x, h => by
    simp only [pcC] at h
    split at h
    · cases h; rfl
    · cases h
  | .list t, l, r, H, x, h => by
    simp only [pcC] at h
    split at h
    · split at h
      · rename_i ht; cases h; simp only [cvC, ht, dif_pos]
      · cases h
    · cases h; rfl
    · split at h
      · rename_i hb
        split at h
        · rename_i ht
          obtain ⟨hp, h⟩ := cond_some h
          cases h
          simp only [cvC, hb, ht, dif_pos, hp, cond_true]
        · cases h
      · cases h
    · cases h
  | .pair a b, l, r, H, x, h => by
    simp only [pcC] at h
    split at h
    case h_2 => cases h
    rename_i h1
    split at h
    case h_2 => cases h
    rename_i h2
    cases h
    simp only [cvC, pcC_cv a h1, pcC_cv b h2]
def bkD : (dl : List DPl) → List SV → SH → Option (DS dl × SH)
  | [], _, H => some ((), H)
  | .tmp i vt :: r, tm, H => match gl tm i with
    | some u => match u with
      | .junk => none
      | u => match cvV vt u H with
        | some (x, H1) => match bkD r tm H1 with
          | some (y, H2) => some ((x, y), H2)
          | none => none
        | none => none
    | none => none
  | .blk b t :: r, tm, H => match sget H b with
    | some (.vars cs) => match cvE t (cvC t cs H) with
      | some (x, H1) => match bkD r tm H1 with
        | some (y, H2) => some ((x, y), H2)
        | none => none
      | none => none
    | _ => none
  | .frz b ks :: r, tm, H => match sget H b with
    | some (.vars us) => match frzK ks us H with
      | some H1 => match bkD r tm H1 with
        | some (y, H2) => some (((), y), H2)
        | none => none
      | none => none
    | _ => none
def castM {a b : Ty} (h : a = b) (x : List (Int × T a)) : List (Int × T b) := Eq.rec (motive := fun b _ => List (Int × T b)) x h
def bolQ (a b : Bool) : Bool := bif a then b else !b
theorem bolQ_eq {a b : Bool} (h : bolQ a b = true) : a = b := by cases a <;> cases b <;> first | rfl | cases h
/-- An own slice: its elements, and the array's name. -/
def rdO (nn : Bool) (t : Ty) (H : SH) (c : Nat) : SV → Option (List (T t) × List (Nat × Nat))
  | .nils => bif nn then none else some ([], [])
  | .own c' => match sget H c' with
    | some (.arr nn' t' l) => if h : t' = t then bif bolQ nn' nn then some (castL h l, [(c, c')]) else none else none
    | _ => none
  | _ => none
def rdK : (ks : List CK) → List SV → SH → Option (CS ks × List (Nat × Nat))
  | [], [], _ => some ((), [])
  | .d t :: r, us, H => match pcC t us H with
    | some (x, us1) => match rdK r us1 H with
      | some (y, s) => some ((x, y), s)
      | none => none
    | none => none
  | .o c nn t :: r, u :: us, H => match rdO nn t H c u with
    | some (x, s1) => match rdK r us H with
      | some (y, s) => some ((x, y), s1 ++ s)
      | none => none
    | none => none
  | _, _, _ => none
def pendQ : Option Code → Option Code → Bool
  | none, none => true
  | some .ret, some .ret => true
  | some (.exit i), some (.exit j) => Nat.beq i j
  | some (.goto i), some (.goto j) => Nat.beq i j
  | _, _ => false
theorem pendQ_eq {a b : Option Code} (h : pendQ a b = true) : a = b := by
  unfold pendQ at h
  split at h <;> first | rfl | (rw [Nat.eq_of_beq_eq_true h]) | cases h
def stateQ : LoopState → LoopState → Bool
  | .ready, .ready => true
  | .busy, .busy => true
  | .done, .done => true
  | _, _ => false
theorem stateQ_eq {a b : LoopState} (h : stateQ a b = true) : a = b := by
  unfold stateQ at h
  split at h <;> first | rfl | cases h
def stQ (L : SL) : List LSt → Bool
  | [] => false
  | s :: _ => stateQ L.st s.1 && pendQ L.pend s.2
def bkO : (ol : List OPl) → List LSt → List SV → SH → Option (OS ol × List (Nat × Nat))
  | [], _, _, _ => some ((), [])
  | .otmp i c nn t :: r, vs, tm, H => match gl tm i with
    | some u => match rdO nn t H c u with
      | some (x, s) => match bkO r vs tm H with
        | some (y, σ) => some ((x, y), s ++ σ)
        | none => none
      | none => none
    | none => none
  | .sblk b ks :: r, vs, tm, H => match sget H b with
    | some (.vars us) => match rdK ks us H with
      | some (x, s) => match bkO r vs tm H with
        | some (y, σ) => some ((x, y), (b, b) :: (s ++ σ))
        | none => none
      | none => none
    | _ => none
  | .arr b nn t :: r, vs, tm, H => match sget H b with
    | some (.arr nn' t' l) => if h : t' = t then bif bolQ nn' nn then match bkO r vs tm H with
        | some (y, σ) => some ((castL h l, y), (b, b) :: σ)
        | none => none
      else none
      else none
    | _ => none
  | .lp l _ :: r, vs, tm, H => match sget H l with
    | some (.loop L') => bif stQ L' vs then match bkO r vs.tail tm H with
        | some (y, σ) => some (((), y), (l, l) :: σ)
        | none => none
      else none
    | _ => none
  | .dfd b :: r, vs, tm, H => match sget H b with
    | some .defd => match bkO r vs tm H with
      | some (y, σ) => some (((), y), (b, b) :: σ)
      | none => none
    | _ => none
  | .mpl b k ag t :: r, vs, tm, H => match sget H b with
    | some (.mpb k' ag' t' l) => if h : t' = t then bif keqF k' k && bolQ ag' ag then match bkO r vs tm H with
        | some (y, σ) => some ((castM h l, y), (b, b) :: σ)
        | none => none
      else none
      else none
    | _ => none

/-! ### What the data stand for -/
theorem bkD_ghost : ∀ {dl : List DPl} {tm : List SV} {H H' : SH} {x : DS dl}, bkD dl tm H = some (x, H') → Ghost H H'
  | [], tm, H, H', x, h => by simp only [bkD] at h; cases h; exact Ghost.refl _
  | .tmp i vt :: r, tm, H, H', x, h => by
    simp only [bkD] at h
    split at h
    case h_2 => cases h
    split at h
    · cases h
    · split at h
      case h_2 => cases h
      rename_i h1
      split at h
      case h_2 => cases h
      rename_i h2
      cases h
      exact (cvV_ok h1).1.trans (bkD_ghost h2)
  | .blk b t :: r, tm, H, H', x, h => by
    simp only [bkD] at h
    split at h
    case h_2 => cases h
    split at h
    case h_2 => cases h
    rename_i h1
    split at h
    case h_2 => cases h
    rename_i h2
    cases h
    obtain ⟨cs1, he, g1, r1⟩ := cvC_ok _ (cvE_some h1)
    exact g1.trans (bkD_ghost h2)
  | .frz b ks :: r, tm, H, H', x, h => by
    simp only [bkD] at h
    split at h
    case h_2 => cases h
    split at h
    case h_2 => cases h
    rename_i h1
    split at h
    case h_2 => cases h
    rename_i h2
    cases h
    exact (frzK_ghost h1).trans (bkD_ghost h2)
theorem trel_at {tm : List Value} {ts : Array Value} {i : Nat} {v v' : Value} (h : TRel φ tm ts) (h1 : ts[i]? = some v') (h2 : VRel φ v v') : TRel φ (tm.set i v) ts := by
  refine ⟨by simpa using h.1, fun j u hu => ?_⟩
  rw [List.getElem?_set] at hu
  by_cases hij : i = j
  · subst hij
    rw [if_pos rfl] at hu
    split at hu
    · cases hu; exact .inr ⟨v', h1, h2⟩
    · cases hu
  · rw [if_neg hij] at hu
    exact h.2 j u hu
/-- The temporaries. -/
theorem bkD_tmps {φ2 φ3 : Ren} {ν : Nat → Bool} {G : SH} {nx : Nat} {ρ3 : Nat → Value} {ts : Array Value} (g : Good φ2 (denH ν G) K w) (hv : VN ν nx G) (hF : ∀ b L, φ2 (FZ + b) = some L → φ3 (FZ + b) = some L) :
    ∀ {dl : List DPl} {tm : List SV} {H H' : SH} {x : DS dl}, bkD dl tm H = some (x, H') → GLe H' G → TRel φ2 (denL (rho ν G) tm) ts → ∀ {tm0 : List SV}, TRel φ3 (denL ρ3 tm0) ts → TRel φ3 (denL ρ3 (tmD dl x tm0)) ts
  | [], tm, H, H', x, h, hG, ht, tm0, h0 => by simpa only [tmD] using h0
  | .tmp i vt :: r, tm, H, H', x, h, hG, ht, tm0, h0 => by
    simp only [bkD] at h
    split at h
    case h_2 => cases h
    rename_i u hu
    split at h
    · cases h
    · rename_i hj
      split at h
      case h_2 => cases h
      rename_i x1 H1 h1
      split at h
      case h_2 => cases h
      rename_i y H2 h2
      cases h
      simp only [tmD]
      refine bkD_tmps g hv hF h2 hG ht ?_
      obtain ⟨g1, r1⟩ := cvV_ok h1
      have g2 := bkD_ghost h2
      rw [gl_eq] at hu
      have hH : rho ν H = rho ν G := by rw [hG.rho ν, g2.1.rho ν, g1.1.rho ν]
      rcases ht.2 i (den (rho ν G) u) (by rw [denL_get, hu]; rfl) with hq | ⟨v', q1, q2⟩
      · exact absurd (den_isjunk hq) hj
      · have key := mkV_facts (ρ := ρ3) hF vt x1 (r1 ν G (g2.1.trans hG) φ2 K w nx v' g hv (by rw [hH]; exact q2) ρ3)
        rw [lsS_eq]
        have : denL ρ3 (tm0.set i (mkV vt x1)) = (denL ρ3 tm0).set i (den ρ3 (mkV vt x1)) := by simp [denL_map, List.map_set]
        rw [this]
        exact trel_at h0 q1 key
  | .blk b t :: r, tm, H, H', x, h, hG, ht, tm0, h0 => by
    simp only [bkD] at h
    split at h
    case h_2 => cases h
    split at h
    case h_2 => cases h
    rename_i h1
    split at h
    case h_2 => cases h
    rename_i h2
    cases h
    simp only [tmD]
    exact bkD_tmps g hv hF h2 hG ht h0
  | .frz b ks :: r, tm, H, H', x, h, hG, ht, tm0, h0 => by
    simp only [bkD] at h
    split at h
    case h_2 => cases h
    split at h
    case h_2 => cases h
    split at h
    case h_2 => cases h
    rename_i h2
    cases h
    simp only [tmD]
    exact bkD_tmps g hv hF h2 hG ht h0
/-- The blocks of variables. -/
theorem bkD_heap {ν : Nat → Bool} {G : SH} : ∀ {dl : List DPl} {tm : List SV} {H H' : SH} {x : DS dl}, bkD dl tm H = some (x, H') → GLe H' G → ∀ {b : Nat} {k : SB}, sget (hpD dl x) b = some k →
      ∃ (t : Ty) (y : T t) (cs : List SV), k = .vars (encL t y) ∧ sget G b = some (.vars cs) ∧ ∀ (φ : Ren) (K : Nat → Prop) (w : World) (nx : Nat) (us : List Value), Good φ (denH ν G) K w → VN ν nx G → LRel φ (denL (rho ν G) cs) us → LRel φ (encC t y) us
  | [], tm, H, H', x, h, hG, b, k, hk => by simp [hpD, sget_nil] at hk
  | .tmp i vt :: r, tm, H, H', x, h, hG, b, k, hk => by
    simp only [bkD] at h
    split at h
    case h_2 => cases h
    split at h
    · cases h
    · split at h
      case h_2 => cases h
      split at h
      case h_2 => cases h
      rename_i h2
      cases h
      simp only [hpD] at hk
      exact bkD_heap h2 hG hk
  | .blk b0 t :: r, tm, H, H', x, h, hG, b, k, hk => by
    simp only [bkD] at h
    split at h
    case h_2 => cases h
    rename_i cs hcs
    split at h
    case h_2 => cases h
    rename_i x1 H1 h1
    split at h
    case h_2 => cases h
    rename_i y H2 h2
    cases h
    simp only [hpD] at hk
    rw [sget_cons] at hk
    by_cases hb : b0 = b
    · subst hb
      simp only [if_true, Option.some.injEq] at hk
      subst hk
      obtain ⟨cs1, he, g1, r1⟩ := cvC_ok _ (cvE_some h1)
      simp only [List.append_nil] at he
      subst he
      have g2 := bkD_ghost h2
      have hg := (g1.1.trans g2.1).trans hG
      refine ⟨t, x1, cs, rfl, ?_, fun φ K w nx us g hv hr => ?_⟩
      · rcases hg b0 with h3 | ⟨nn, t', l, h3, _⟩
        · rw [h3]; exact hcs
        · rw [hcs] at h3; cases h3
      · exact r1 ν G (g2.1.trans hG) φ K w nx us g hv (by rw [← hg.rho ν]; exact hr)
    · rw [if_neg hb] at hk
      exact bkD_heap h2 hG hk
  | .frz b0 ks :: r, tm, H, H', x, h, hG, b, k, hk => by
    simp only [bkD] at h
    split at h
    case h_2 => cases h
    split at h
    case h_2 => cases h
    split at h
    case h_2 => cases h
    rename_i h2
    cases h
    simp only [hpD] at hk
    exact bkD_heap h2 hG hk
end Go.Fz.Sy
