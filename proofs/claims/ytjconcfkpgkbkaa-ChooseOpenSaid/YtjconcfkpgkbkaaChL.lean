/- Contracts: a nil list of entries; what valid heads say; the greatest class. -/
import Derived.Test.YtjconcfkpgkbkaaChK
namespace Go.Proofs.Ytjconcfkpgkbkaa.choose
open Go Go.En
set_option linter.unusedVariables false

/-- Temporaries, by number. -/
def mkT : Nat → Nat → List (Nat × Value) → List Value
  | 0, _, _ => []
  | n + 1, i, [] => J :: mkT n (i + 1) []
  | n + 1, i, (j, v) :: r => match Nat.beq i j with
    | true => v :: mkT n (i + 1) r
    | false => J :: mkT n (i + 1) ((j, v) :: r)
def lvN (c : Nat) (cyc per sh : Int) : Value := lvS none 0 c cyc per sh
theorem gcheckN (c : Nat) (cyc : Int) : Memo.Ok Try.prog ⟨29, 0, [.agg #[.slice none 0 c, .int .i64 cyc]], [], .int .i64 370, [], 0⟩ :=
  memo_pure (hs := []) (ch := []) 2 (evk 50) special trivial trivial (by kernel_rfl) rfl (by kernel_rfl)
theorem lineN (c : Nat) (cyc per sh : Int) : Memo.Ok Try.prog ⟨13, 0, [lvN c cyc per sh], [], .int .i64 471, [], 0⟩ := by
  have mc := memo_any (gcheckN c cyc) 1 (by kernel_rfl) rfl rfl
  exact memo_pure (hs := [(5, .call _)]) (ch := []) 1 (evk 50) special ⟨mc, trivial⟩ trivial (by kernel_rfl) rfl (by kernel_rfl)
theorem lineN_m (c : Nat) (cyc per sh : Int) (nx : Nat) : Memo.Ok Try.prog ⟨13, nx, [lvN c cyc per sh], [], .int .i64 471, [], nx⟩ := memo_any (lineN c cyc per sh) nx (by kernel_rfl) rfl rfl
/-- A contract that looks at no block, at other names. -/
theorem memo_no {f : FuncId} {args args' : List Value} {v v' : Value} (h : Memo.Ok Try.prog ⟨f, 1, args, [], v, [], 1⟩) (b nx : Nat) (hc : (smallL (small 1 5) args && small 1 5 v) = true)
    (h1 : args.map (renV (shift (fun _ => b) 1 nx) 5) = args') (h2 : renV (shift (fun _ => b) 1 nx) 5 v = v') : Memo.Ok Try.prog ⟨f, nx, args', [], v', [], nx⟩ := by
  simp only [Bool.and_eq_true] at hc
  have := memo_ren h (fun _ => b) nx [] (by simp [hc.1, hc.2, below, inNew]) rfl rfl (fun c ds hb => by simp [roHp, Hp.get] at hb)
  simpa [h1, h2, renH] using this
theorem checkN (c n k : Nat) (cyc per sh t : Int) : Memo.Ok Try.prog ⟨34, 1, [lvN c cyc per sh, hv 0 n k, .int .i64 t], [], .int .i64 471, [], 1⟩ := by
  have m1 := lineN_m c cyc per sh 2
  exact memo_pure (hs := [(10, .call _)]) (ch := []) 2 (evk 50) special ⟨m1, trivial⟩ trivial (by kernel_rfl) rfl (by kernel_rfl)
theorem checkN_m (c n k : Nat) (cyc per sh t : Int) (b nx : Nat) : Memo.Ok Try.prog ⟨34, nx, [lvN c cyc per sh, hv b n k, .int .i64 t], [], .int .i64 471, [], nx⟩ := memo_no (checkN c n k cyc per sh t) b nx (by kernel_rfl) rfl rfl
theorem MayN (c n k : Nat) (cyc per sh cls t : Int) (b nx : Nat) : Memo.Ok Try.prog ⟨17, nx, [lvN c cyc per sh, hv b n k, .int .i64 cls, .int .i64 t], [], .tuple #[.bool false, .int .i64 471], [], nx⟩ := by
  have m1 := checkN_m c n k cyc per sh t 0 2
  have : Memo.Ok Try.prog ⟨17, 1, [lvN c cyc per sh, hv 0 n k, .int .i64 cls, .int .i64 t], [], .tuple #[.bool false, .int .i64 471], [], 1⟩ :=
    memo_pure (hs := [(14, .call _)]) (ch := []) 2 (evk 50) special ⟨m1, trivial⟩ trivial (by kernel_rfl) rfl (by kernel_rfl)
  exact memo_no this b nx (by kernel_rfl) rfl rfl
theorem StartN (c n k : Nat) (cyc per sh t : Int) (b nx : Nat) : Memo.Ok Try.prog ⟨18, nx, [lvN c cyc per sh, hv b n k, .int .i64 t], [], .tuple #[.int .i64 0, .int .i64 471], [], nx⟩ := by
  have m1 := checkN_m c n k cyc per sh t 0 3
  have : Memo.Ok Try.prog ⟨18, 1, [lvN c cyc per sh, hv 0 n k, .int .i64 t], [], .tuple #[.int .i64 0, .int .i64 471], [], 1⟩ :=
    memo_pure (hs := [(13, .call _)]) (ch := []) 3 (evk 50) special ⟨m1, trivial⟩ trivial (by kernel_rfl) rfl (by kernel_rfl)
  exact memo_no this b nx (by kernel_rfl) rfl rfl
/-! ### At other names -/
theorem StartE_m (X : Cx) (t : Int) {e : Int} (he : errC X t = e) (hne : (e != 0) = true) (b nx : Nat) : Memo.Ok Try.prog ⟨18, nx, [X.lv, X.hv (b + 1), .int .i64 t], X.V (b + 1), .tuple #[.int .i64 0, .int .i64 e], [], nx⟩ :=
  X.mv (StartE X t he hne) b nx (by kernel_rfl) rfl rfl
theorem StartY_m (X : Cx) {t : Int} (he : errC X t = 0) {g : Option Nat} (hg : startS X t = g) (b nx : Nat) : Memo.Ok Try.prog ⟨18, nx, [X.lv, X.hv (b + 1), .int .i64 t], X.V (b + 1), startV g, [], nx⟩ :=
  X.mv (StartY X he hg) b nx (by kernel_rfl) rfl rfl
theorem MayE_m (X : Cx) (cls t : Int) {e : Int} (he : errC X t = e) (hne : (e != 0) = true) (b nx : Nat) : Memo.Ok Try.prog ⟨17, nx, [X.lv, X.hv (b + 1), .int .i64 cls, .int .i64 t], X.V (b + 1), .tuple #[.bool false, .int .i64 e], [], nx⟩ :=
  X.mv (MayE X cls t he hne) b nx (by kernel_rfl) rfl rfl
theorem MayA_m (X : Cx) {cls t : Int} (he : errC X t = 0) (hc : cls < 0 ∨ cls ≥ 8) (b nx : Nat) : Memo.Ok Try.prog ⟨17, nx, [X.lv, X.hv (b + 1), .int .i64 cls, .int .i64 t], X.V (b + 1), .tuple #[.bool false, .int .i64 2], [], nx⟩ :=
  X.mv (MayA X he hc) b nx (by kernel_rfl) rfl rfl
theorem MayY_m (X : Cx) {i : Nat} {t : Int} (he : errC X t = 0) (hi : i < 8) {p : Bool} (hp : mayS X i t = p) (b nx : Nat) : Memo.Ok Try.prog ⟨17, nx, [X.lv, X.hv (b + 1), .int .i64 i, .int .i64 t], X.V (b + 1), .tuple #[.bool p, .int .i64 0], [], nx⟩ :=
  X.mv (MayY X he hi hp) b nx (by kernel_rfl) rfl rfl
/-! ### Plain -/
theorem down_some {f : Nat → Bool} : ∀ {n i : Nat}, down f n = some i → i < n ∧ f i = true ∧ ∀ j, i < j → j < n → f j = false
  | 0, i, h => by cases h
  | n + 1, i, h => by
    simp only [down] at h
    cases hf : f n with
    | true =>
      rw [hf] at h
      simp only [cond_true, Option.some.injEq] at h
      subst h
      exact ⟨by omega, hf, fun j h1 h2 => by omega⟩
    | false =>
      rw [hf] at h
      simp only [cond_false] at h
      obtain ⟨h1, h2, h3⟩ := down_some h
      refine ⟨by omega, h2, fun j h4 h5 => ?_⟩
      by_cases hj : j = n
      · subst hj; exact hf
      · exact h3 j h4 (by omega)
theorem headsGo_at : ∀ {l : List Pt} {i : Nat} {r r' : Int}, headsGo l i r = some r' → ∀ (j : Nat) (p : Pt), l[j]? = some p → eqPt p zp = false → hbad p (i + j) = false
  | [], i, r, r', h, j, p, hp, _ => by simp at hp
  | q :: l, i, r, r', h, j, p, hp, he => by
    simp only [headsGo] at h
    split at h
    case h_1 => cases h
    rename_i r2 h2
    cases j with
    | zero =>
      simp only [List.getElem?_cons_zero, Option.some.injEq] at hp
      subst hp
      unfold hstep at h2
      rw [he] at h2
      simp only [cond_false] at h2
      cases hb : hbad q (i + 0) with
      | false => rfl
      | true => simp only [Nat.add_zero] at hb; rw [hb] at h2; cases h2
    | succ j =>
      have := headsGo_at h j p (by simpa using hp) he
      rw [show i + (j + 1) = i + 1 + j by omega]
      exact this
theorem heads_cls {X : Cx} (h : headsS X.hs = true) {k : Nat} (hk : k < 8) (hf : fullS X k = true) : (X.at_ k).it.cls = k ∧ partC (X.at_ k) = true := by
  have h8 := headsS_len h
  unfold headsS at h
  simp only [Bool.and_eq_true] at h
  cases hg : headsGo X.hs 0 0 with
  | none => rw [hg] at h; cases h.2
  | some r =>
    have := headsGo_at hg k (X.at_ k) (pt_at (by omega)) (by unfold fullS at hf; simpa using hf)
    unfold hbad at this
    simp only [Nat.zero_add, Bool.or_eq_false_iff, Bool.not_eq_false', bne_eq_false_iff_eq] at this
    exact ⟨this.2, this.1⟩
theorem heldGo_no {X : Cx} {i : Nat} : ∀ {n k : Nat}, heldGo X i n k = false → ∀ j, k ≤ j → j < k + n → heldP (X.at_ j) i j = false
  | 0, k, h, j, h1, h2 => by omega
  | n + 1, k, h, j, h1, h2 => by
    simp only [heldGo, Bool.or_eq_false_iff] at h
    by_cases hj : j = k
    · subst hj; exact h.1
    · exact heldGo_no h.2 j (by omega) (by omega)
theorem errC_heads {X : Cx} {t : Int} (h : errC X t = 0) : headsS X.hs = true ∧ lineX X = true := by
  unfold errC at h
  cases h1 : lineX X with
  | false => rw [h1] at h; cases h
  | true =>
    cases h2 : headsS X.hs with
    | false => rw [h1, h2] at h; cases h
    | true => exact ⟨rfl, rfl⟩
/-- The context that few makes. -/
def Raw.cx (Y : Raw) (k : Nat) : Cx := ⟨Y.es, Y.c, Y.cyc, Y.per, Y.sh, Y.hs, k, by have := Y.he; omega, by have := Y.hh; omega⟩
theorem Raw.hs_nil (Y : Raw) (h : Y.m = 0) : Y.hs = [] := by
  have := Y.hh
  exact List.length_eq_zero_iff.1 (by omega)
theorem Raw.pos_sb (Y : Raw) (h : 0 < Y.m) : Y.sb = some ⟨1, 0, none⟩ := by
  rcases Y.hb with ⟨_, h0⟩ | h1
  · omega
  · exact h1
theorem errC_none {X : Cx} (h : X.hs = []) (t : Int) : (errC X t != 0) = true := by
  unfold errC
  have : headsS X.hs = false := by rw [h]; rfl
  rw [this]
  cases lineX X <;> rfl
end Go.Proofs.Ytjconcfkpgkbkaa.choose
