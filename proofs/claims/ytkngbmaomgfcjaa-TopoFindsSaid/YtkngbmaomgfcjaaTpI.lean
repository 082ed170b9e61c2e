/- Contract: the reference's Right. -/
import Derived.Test.YtkngbmaomgfcjaaTpH
namespace Go.Proofs.Ytkngbmaomgfcjaa.topo
open Go Go.En
set_option linter.unusedVariables false

def ρ0 : Nat → Nat
  | 2 => 0
  | b => b
/-- The reference's Reach without a cut. -/
theorem reachRn (X : Cx) {a : Nat} (hN : X.N = X.S.length) (he : ∀ l ∈ X.ls, Ends X.S.length l) (ha : a < X.S.length) (nx : Nat) :
    Memo.Ok Try.prog ⟨20, nx, [X.v, .int .i64 a, .slice none 0 0], X.V, .slice (some ⟨nx + 1, 0, none⟩) X.S.length X.S.length, [(nx + 1, bc (reachR [] X.ls X.S.length a))], nx + 2⟩ := by
  have h := reachR_0 (K := []) (e := 0) X (by simp) (.inl ⟨rfl, rfl⟩) hN he ha
  have hv : renV (shift ρ0 3 nx) 5 X.v = X.v := by
    show Value.agg ([_, _, _] : List Value).toArray = _
    have h0 : shift ρ0 3 nx 0 = 0 := rfl
    have h1 : shift ρ0 3 nx 1 = 1 := rfl
    rw [sl_ren X.hsa h0, sl_ren X.hsb h1]
    rfl
  have hb : below 3 (V20 X []) = true := by kernel_rfl
  have := memo_renW h ρ0 nx X.V (by simp only [En.smallL, X.small (by omega : 2 ≤ 3), hb, inNew, Bool.true_and]; rfl) (by simp [En.smallH, V20, small_avL X.avs, small_avL X.avk, ic, En.smallL]) (by simp [En.smallH, small_avL (bc_av _)]) (fun b cs hb => by
    by_cases h0 : 0 = b
    · subst h0
      simp [V20, roHp, Hp.get] at hb
      subst hb
      exact ⟨X.st, by simp [Cx.V, roHp, Hp.get, ρ0], fun j u hu => by
        have := renV_avL (ρ := shift ρ0 3 nx) (n := 5) X.avs
        have h2 : (X.st.map (renV (shift ρ0 3 nx) 5))[j]? = some (renV (shift ρ0 3 nx) 5 u) := by simp [hu]
        rwa [this] at h2⟩
    · by_cases h1 : 1 = b
      · subst h1
        simp [V20, roHp, Hp.get] at hb
        subst hb
        exact ⟨X.lk, by simp [Cx.V, roHp, Hp.get, ρ0], fun j u hu => by
          have := renV_avL (ρ := shift ρ0 3 nx) (n := 5) X.avk
          have h2 : (X.lk.map (renV (shift ρ0 3 nx) 5))[j]? = some (renV (shift ρ0 3 nx) 5 u) := by simp [hu]
          rwa [this] at h2⟩
      · by_cases h2 : 2 = b
        · subst h2
          simp [V20, roHp, Hp.get, ic] at hb
          subst hb
          exact ⟨X.st, by simp [Cx.V, roHp, Hp.get, ρ0], fun j u hu => by simp at hu⟩
        · simp [V20, roHp, Hp.get, h0, h1, h2] at hb)
  simp only [List.map_cons, List.map_nil, hv, renH, renV_avL (bc_av _)] at this
  exact this

theorem joins_dup (l o : Lk) : joinsS o l.a l.b = dup l o := by
  unfold joinsS dup
  rw [Bool.eq_iff_iff]
  simp only [Bool.or_eq_true, Bool.and_eq_true, beq_iff_eq]
  omega
def T14 (X : Cx) (i : Int) : List Value := [J, pt 2, .bool false, .slice (some ⟨5, 0, none⟩) X.S.length X.S.length, .int .i64 i] ++ List.replicate 114 J
def U14 (X : Cx) (i k : Int) : List Value := [J, pt 2, .bool false, .slice (some ⟨5, 0, none⟩) X.S.length X.S.length, .int .i64 i, pt 7, .int .i64 k] ++ List.replicate 112 J
def UO14 (X : Cx) (i : Int) : List Value := [J, pt 2, .bool false, .slice (some ⟨5, 0, none⟩) X.S.length X.S.length, .int .i64 i, pt 7, J] ++ List.replicate 112 J
def TR14 : List Value := [J, J, .bool false, J, J, J, J] ++ List.replicate 112 J
def H14 (X : Cx) (D : List Int) : Hp := [(5, .cells (ic D) false), (2, .cells X.cells true), (0, .cells X.st true), (1, .cells X.lk true)]
def G14 (X : Cx) (D : List Int) (l : Lk) : Hp := (7, .cells l.cells false) :: H14 X D
theorem G14_below (X : Cx) (D : List Int) (l : Lk) : hpBelow 8 (G14 X D l) = true := by
  have h2 : hpBelow 8 (H14 X D) = true := H37_below X D (by omega)
  show ((decide (7 < 8) && tidyB 8 (.cells l.cells false)) && hpBelow 8 (H14 X D)) = true
  rw [h2]; rfl
theorem j_go (X : Cx) {D : List Int} {i k : Nat} {l o : Lk} (hk : k < i) (ho : X.ls[k]? = some o) {b : Bool} (hb : dup l o = b) :
    CodeOk Try.prog none (lp Try.prog 14 11) (U14 X i k) [] (G14 X D l) 8 (bif b then ⟨.ret, TR14, [], G14 X D l, 8⟩ else ⟨.normal, U14 X i (IntKind.i64.wrap (k + 1)), [], G14 X D l, 8⟩) := by
  have mj := joins_m o l.a l.b ((joins_dup l o).trans hb) 8
  have l0 := X.ldL ho
  have hlt := lt_of ho
  obtain ⟨a, b', p, q⟩ := l
  obtain ⟨x, y, p', q'⟩ := o
  cases b <;>
    exact code_at (hs := [(52, .val (.bool (decide ((k : Int) < i))) (.bool true)), (58, .ix 23 (.slice X.sb X.ls.length X.d) (.int .i64 k) _), (59, .ld 50 _ 1 X.lk true _), (64, .call _)]) (ch := []) (evk 50) special
      ⟨congrArg Value.bool (decide_eq_true (by omega)), X.ixL hlt, ⟨l0, _, rfl⟩, mj, trivial⟩ trivial (by kernel_rfl) (G14_below X D _) (G14_below X D _) (by kernel_rfl)
theorem j_out (X : Cx) (D : List Int) (i : Nat) (l : Lk) : CodeOk Try.prog none (lp Try.prog 14 11) (U14 X i i) [] (G14 X D l) 8 ⟨.exit 2, UO14 X i, [], G14 X D l, 8⟩ := by
  obtain ⟨a, b', p, q⟩ := l
  exact code_at (hs := [(52, .val (.bool (decide ((i : Int) < i))) (.bool false))]) (ch := []) (evk 50) special ⟨congrArg Value.bool (decide_eq_false (by omega)), trivial⟩ trivial (by kernel_rfl) (G14_below X D _) (G14_below X D _) (by kernel_rfl)
def J14 (X : Cx) (D : List Int) (i : Nat) (l : Lk) : Bool → Res
  | true => ⟨.ret, TR14, [], G14 X D l, 8⟩
  | false => ⟨.exit 2, UO14 X i, [], G14 X D l, 8⟩
theorem j_loop (X : Cx) {D : List Int} {i : Nat} {l : Lk} (hi : i ≤ X.ls.length) : ∀ (r k : Nat), k + r = i → LoopOk Try.prog none (lp Try.prog 14 11) (U14 X i k) [] (G14 X D l) 8 (J14 X D i l (((X.ls.take i).drop k).any (dup l)))
  | 0, k, h => by
    have : k = i := by omega
    subst this
    rw [List.drop_eq_nil_of_le (by simp; omega)]
    exact loopOk_out (j_out X D k l) (by show Exit.exit 2 ≠ Exit.normal; simp)
  | r + 1, k, h => by
    have hk : k < (X.ls.take i).length := by simp; omega
    have ho : X.ls[k]? = some X.ls[k] := List.getElem?_eq_getElem (by omega)
    have hget : (X.ls.take i)[k] = X.ls[k] := by simp
    rw [List.drop_eq_getElem_cons hk, List.any_cons, hget]
    cases hb : dup l X.ls[k] with
    | true => exact loopOk_out (j_go X (by omega) ho hb) (by show Exit.ret ≠ Exit.normal; simp)
    | false =>
      have h1 := j_go X (D := D) (i := i) (by omega) ho hb
      simp only [cond_false] at h1
      rw [show (k : Int) + 1 = ((k + 1 : Nat) : Int) by push_cast; rfl, wrap_nat (by have := X.hL; omega)] at h1
      exact loop_step h1 (j_loop X hi r (k + 1) (by omega))
termination_by r => r
theorem linkR_bad (X : Cx) {l : Lk} (h : k1 X.N l = false) (nx : Nat) : Memo.Ok Try.prog ⟨45, nx, [X.v, l.v], X.V, .bool false, [], nx⟩ := Cx.at (link_bad X h) nx rfl rfl rfl
theorem linkR_m (X : Cx) {a b : Nat} {l : Lk} {x y : Bool} (h : k1 X.N l = true) (ha : l.a = a) (hb : l.b = b) (hx : X.S[a]? = some x) (hy : X.S[b]? = some y) {p : Bool} (hp : (k2 x y && k4 l) = p) (nx : Nat) : Memo.Ok Try.prog ⟨45, nx, [X.v, l.v], X.V, .bool p, [], nx⟩ := by
  subst hp
  exact Cx.at (link_0 X h ha hb hx hy) nx (by kernel_rfl) rfl rfl
def Q14 (X : Cx) (D D' : List Int) (j : Int) : Bool → Res
  | true => ⟨.normal, T14 X j, [], H14 X D', 6⟩
  | false => ⟨.ret, TR14, [], H14 X D, 6⟩
theorem H14_below (X : Cx) (D : List Int) : hpBelow 6 (H14 X D) = true := H37_below X D (by omega)
/-- One link, in the reference's loop. -/
theorem g_go (X : Cx) (hN : X.N = X.S.length) {D : List Int} {i : Nat} {l : Lk} (hD : D.length = X.S.length) (hi : X.ls[i]? = some l) :
    CodeOk Try.prog none (lp Try.prog 14 5) (T14 X i) [] (H14 X D) 6 (Q14 X D (inc (inc D l.a.toNat) l.b.toNat) (IntKind.i64.wrap (i + 1)) (linkOk X i l)) := by
  have l0 := X.ldL hi
  have hlt := lt_of hi
  unfold linkOk
  cases hk : k1 X.N l with
  | false =>
    have ml := linkR_bad X hk 8
    obtain ⟨a, b, p, q⟩ := l
    exact code_at (hs := [(38, .val (.bool (decide ((i : Int) < X.ls.length))) (.bool true)), (44, .ix 23 (.slice X.sb X.ls.length X.d) (.int .i64 i) _), (45, .ld 50 _ 1 X.lk true _), (48, .call _)]) (ch := []) (evk 50) special
      ⟨congrArg Value.bool (decide_eq_true (by omega)), X.ixL hlt, ⟨l0, _, rfl⟩, ml, trivial⟩ trivial (by kernel_rfl) (H14_below X D) (H14_below X D) (by kernel_rfl)
  | true =>
    have hk2 := hk
    simp only [k1, Bool.and_eq_true] at hk2
    obtain ⟨a, ha, hx⟩ := node_at hN hk2.1.1
    obtain ⟨b, hb, hy⟩ := node_at hN hk2.1.2
    have key : ∀ p1 p2, (k2 (X.S.getD l.a.toNat false) (X.S.getD l.b.toNat false) && k4 l) = p1 → (X.ls.take i).any (dup l) = p2 →
        CodeOk Try.prog none (lp Try.prog 14 5) (T14 X i) [] (H14 X D) 6 (Q14 X D (inc (inc D l.a.toNat) l.b.toNat) (IntKind.i64.wrap (i + 1)) (p1 && !p2)) := by
      intro p1 p2 h1 h2
      have ml := linkR_m X hk ha hb hx hy h1 8
      have hj := j_loop X (D := D) (l := l) (Nat.le_of_lt hlt) i 0 (by omega)
      rw [List.drop_zero, h2] at hj
      have hax : a < X.S.length := lt_of hx
      have hbx : b < X.S.length := lt_of hy
      obtain ⟨a', b', p, q⟩ := l
      dsimp only at ha hb
      subst ha
      subst hb
      have hix1 : doIndexAddr Try.prog 28 (.slice (some ⟨5, 0, none⟩) X.S.length X.S.length) (.int .i64 a) = _ := ix_i hax
      have hix2 : doIndexAddr Try.prog 28 (.slice (some ⟨5, 0, none⟩) X.S.length X.S.length) (.int .i64 b) = _ := ix_i hbx
      have la := ld_i (b := 5) (ro := true) (D := D) (i := a) (by omega)
      have sa := st_i (b := 5) (D := D) (i := a) (x := IntKind.i64.wrap (D.getD a 0 + 1)) (by omega)
      have lb := ld_i (b := 5) (ro := true) (D := inc D a) (i := b) (by rw [inc_len]; omega)
      have sb := st_i (b := 5) (D := inc D a) (i := b) (x := IntKind.i64.wrap ((inc D a).getD b 0 + 1)) (by rw [inc_len]; omega)
      cases p1
      · cases p2 <;> exact code_at (hs := [(38, .val (.bool (decide ((i : Int) < X.ls.length))) (.bool true)), (44, .ix 23 (.slice X.sb X.ls.length X.d) (.int .i64 i) _), (45, .ld 50 _ 1 X.lk true _), (48, .call _)]) (ch := []) (evk 50) special
          ⟨congrArg Value.bool (decide_eq_true (by omega)), X.ixL hlt, ⟨l0, _, rfl⟩, ml, trivial⟩ trivial (by kernel_rfl) (H14_below X D) (H14_below X D) (by kernel_rfl)
      · cases p2 <;> exact code_at (hs := [(38, .val (.bool (decide ((i : Int) < X.ls.length))) (.bool true)), (44, .ix 23 (.slice X.sb X.ls.length X.d) (.int .i64 i) _), (45, .ld 50 _ 1 X.lk true _), (48, .call _),
            (71, .ix 28 (.slice (some ⟨5, 0, none⟩) X.S.length X.S.length) (.int .i64 a) _), (72, .ld 3 _ 5 (ic D) true _), (74, .ix 28 (.slice (some ⟨5, 0, none⟩) X.S.length X.S.length) (.int .i64 a) _), (100074, .st 3 _ (.int .i64 (IntKind.i64.wrap (D.getD a 0 + 1))) 5 (ic D) _),
            (81, .ix 28 (.slice (some ⟨5, 0, none⟩) X.S.length X.S.length) (.int .i64 b) _), (82, .ld 3 _ 5 (ic (inc D a)) true _), (84, .ix 28 (.slice (some ⟨5, 0, none⟩) X.S.length X.S.length) (.int .i64 b) _), (100084, .st 3 _ (.int .i64 (IntKind.i64.wrap ((inc D a).getD b 0 + 1))) 5 (ic (inc D a)) _)]) (ch := [⟨11, none, .loop (lp Try.prog 14 11), U14 X i 0, [], G14 X D ⟨a, b, p, q⟩, 8, _, true⟩]) (evk 50) special
          ⟨congrArg Value.bool (decide_eq_true (by omega)), X.ixL hlt, ⟨l0, _, rfl⟩, ml, hix1, ⟨la, _, rfl⟩, hix1, ⟨sa, _, rfl⟩, hix2, ⟨lb, _, rfl⟩, hix2, ⟨sb, _, rfl⟩, trivial⟩ ⟨codeOk_loop hj, trivial⟩ (by kernel_rfl) (H14_below X D) (H14_below X _) (by kernel_rfl)
    have e : (true && (k2 (X.S.getD l.a.toNat false) (X.S.getD l.b.toNat false) && (k3 X.ls i l && k4 l))) = ((k2 (X.S.getD l.a.toNat false) (X.S.getD l.b.toNat false) && k4 l) && !((X.ls.take i).any (dup l))) := by
      unfold k3
      cases k2 (X.S.getD l.a.toNat false) (X.S.getD l.b.toNat false) <;> cases k4 l <;> cases (X.ls.take i).any (dup l) <;> rfl
    rw [e]
    exact key _ _ rfl rfl
end Go.Proofs.Ytkngbmaomgfcjaa.topo
