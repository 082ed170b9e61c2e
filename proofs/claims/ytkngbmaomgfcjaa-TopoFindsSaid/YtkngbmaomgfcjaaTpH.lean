/- Contracts: the reference's In and Reach. -/
import Derived.Test.YtkngbmaomgfcjaaTpG
namespace Go.Proofs.Ytkngbmaomgfcjaa.topo
open Go Go.En
set_option linter.unusedVariables false

def T48 (sc : Option Addr) (n e : Nat) (x k : Int) : List Value := [.slice sc n e, .int .i64 x, J, J, .bool false, .int .i64 k] ++ List.replicate 12 J
def TR48 (b : Bool) : List Value := [J, J, J, J, .bool b, J] ++ List.replicate 12 J
def H48 (K : List Int) : Hp := [(0, .cells (ic K) true)]
theorem H48_below (K : List Int) : hpBelow 1 (H48 K) = true := by
  have a4 : tidyB 1 (.cells (ic K) true) = true := small_avL (ic_av K)
  simp [H48, hpBelow, a4]
theorem pre48 {sc : Option Addr} {n : Nat} (h : Sl 0 n sc) (K : List Int) (e : Nat) (x k : Int) : (nodupN (H48 K) && tmBelow 1 (T48 sc n e x k) && dsBelow 1 [] && rBelow 1 none) = true := by
  rcases h with ⟨h, _⟩ | h
  · simp only [T48, h]
    show _ = true
    kernel_rfl
  · simp only [T48, h]
    show _ = true
    kernel_rfl
theorem in_go48 {K : List Int} {sc : Option Addr} {e k : Nat} {x : Int} (h : Sl 0 K.length sc) (hk : k < K.length) {b : Bool} (hb : (K.getD k 0 == x) = b) :
    CodeOk Try.prog none (lp Try.prog 48 2) (T48 sc K.length e x k) [] (H48 K) 1 (bif b then ⟨.ret, TR48 true, [], H48 K, 1⟩ else ⟨.normal, T48 sc K.length e x (IntKind.i64.wrap (k + 1)), [], H48 K, 1⟩) := by
  have l0 : doLoad Try.prog [(0, .cells (ic K) true)] 3 (.pointer (some ⟨0, 0 + k * 1, none⟩)) = some (.int .i64 (K.getD k 0)) := ld_i hk
  have hx : doIndexAddr Try.prog 28 (.slice sc K.length e) (.int .i64 k) = some (.pointer (some ⟨0, 0 + k * 1, none⟩)) := h.ix' u28 z3 hk
  have pre := pre48 h K e x k
  rcases h with ⟨h, _⟩ | h <;> cases b <;>
    (refine code_at (hs := [(9, .val (.bool (decide ((k : Int) < K.length))) (.bool true)), (14, .ix 28 (.slice sc K.length e) (.int .i64 k) _), (15, .ld 3 _ 0 (ic K) true _), (17, .val (.bool (K.getD k 0 == x)) (.bool _))]) (ch := []) (evk 50) special ⟨congrArg Value.bool (decide_eq_true (by omega)), hx, ⟨l0, _, rfl⟩, congrArg Value.bool hb, trivial⟩ trivial pre (H48_below K) (H48_below K) ?_
     simp only [T48, h, cond_true, cond_false]; kernel_rfl)
theorem in_out48 {K : List Int} {sc : Option Addr} {e : Nat} {x : Int} (h : Sl 0 K.length sc) : CodeOk Try.prog none (lp Try.prog 48 2) (T48 sc K.length e x K.length) [] (H48 K) 1 ⟨.exit 0, TR48 false, [], H48 K, 1⟩ := by
  have pre := pre48 h K e x K.length
  rcases h with ⟨h, _⟩ | h <;>
    (refine code_at (hs := [(9, .val (.bool (decide ((K.length : Int) < K.length))) (.bool false))]) (ch := []) (evk 50) special ⟨congrArg Value.bool (decide_eq_false (by omega)), trivial⟩ trivial pre (H48_below K) (H48_below K) ?_
     simp only [T48, h]; kernel_rfl)
def inS (K : List Int) (x : Int) : Bool := K.any (· == x)
def F48 (K : List Int) : Bool → Res
  | true => ⟨.ret, TR48 true, [], H48 K, 1⟩
  | false => ⟨.exit 0, TR48 false, [], H48 K, 1⟩
theorem in_loop48 {K : List Int} {sc : Option Addr} {e : Nat} {x : Int} (hK : K.length ≤ 1000) (h : Sl 0 K.length sc) : ∀ (r k : Nat), k + r = K.length → LoopOk Try.prog none (lp Try.prog 48 2) (T48 sc K.length e x k) [] (H48 K) 1 (F48 K (inS (K.drop k) x))
  | 0, k, hk => by
    have : k = K.length := by omega
    subst this
    rw [List.drop_length]
    exact loopOk_out (in_out48 h) (by show Exit.exit 0 ≠ Exit.normal; simp)
  | r + 1, k, hk => by
    have hlt : k < K.length := by omega
    have hg : K.getD k 0 = K[k] := by simp [List.getD_eq_getElem?_getD, hlt]
    rw [List.drop_eq_getElem_cons hlt]
    simp only [inS, List.any_cons]
    cases hb : (K[k] == x) with
    | true => exact loopOk_out (in_go48 (e := e) h hlt (hg ▸ hb)) (by show Exit.ret ≠ Exit.normal; simp)
    | false =>
      have h1 := in_go48 (e := e) h hlt (hg ▸ hb)
      simp only [cond_false] at h1
      rw [show (k : Int) + 1 = ((k + 1 : Nat) : Int) by push_cast; rfl, wrap_nat (by omega)] at h1
      exact loop_step h1 (in_loop48 hK h r (k + 1) (by omega))
termination_by r => r
theorem in_0 {K : List Int} {sc : Option Addr} {e : Nat} {x : Int} (hK : K.length ≤ 1000) (h : Sl 0 K.length sc) : Memo.Ok Try.prog ⟨48, 1, [.slice sc K.length e, .int .i64 x], [(0, ic K)], .bool (inS K x), [], 1⟩ := by
  have hlo := in_loop48 (e := e) (x := x) hK h K.length 0 (by omega)
  rw [List.drop_zero] at hlo
  generalize inS K x = g at hlo ⊢
  have hpre : (nodupN (roHp [(0, ic K)]) && below 1 [(0, ic K)] && smallL (small 1 5) [.slice sc K.length e, .int .i64 x] && small 1 5 (.bool g)) = true := by
    simp only [smallL, sl_small h (by omega : 0 < 1), Bool.true_and]
    rfl
  cases g <;>
    exact memo_pure (hs := []) (ch := [⟨2, none, .loop (lp Try.prog 48 2), T48 sc K.length e x 0, [], H48 K, 1, _, true⟩]) 1 (evk 50) special trivial ⟨codeOk_loop hlo, trivial⟩ hpre (by simp [En.smallH, small_avL (ic_av K)]) (by kernel_rfl)
theorem in_m {K : List Int} {sc : Option Addr} {b e : Nat} {x : Int} (hK : K.length ≤ 1000) (h : Sl b K.length sc) {p : Bool} (hp : inS K x = p) (nx : Nat) : Memo.Ok Try.prog ⟨48, nx, [.slice sc K.length e, .int .i64 x], [(b, ic K)], .bool p, [], nx⟩ := by
  subst hp
  rcases h with ⟨rfl, h⟩ | rfl
  · exact memo_blk (in_0 hK (.inl ⟨rfl, h⟩)) (ic_av K) b nx (by kernel_rfl) rfl rfl
  · exact memo_blk (in_0 hK (.inr rfl)) (ic_av K) b nx (by kernel_rfl) rfl rfl

/-! ### Reach -/
def T20 (X : Cx) (cv : Value) (r : Int) : List Value := [J, J, cv, pt 3, J, J, J, .slice (some ⟨4, 0, none⟩) X.S.length X.S.length, .int .i64 r] ++ List.replicate 53 J
def U20 (X : Cx) (cv : Value) (r i : Int) : List Value := [J, J, cv, pt 3, J, J, J, .slice (some ⟨4, 0, none⟩) X.S.length X.S.length, .int .i64 r, .int .i64 i] ++ List.replicate 52 J
def H20 (X : Cx) (K : List Int) (R : List Bool) : Hp := [(4, .cells (bc R) false), (3, .cells X.cells true), (0, .cells X.st true), (1, .cells X.lk true), (2, .cells (ic K) true)]
theorem H20_below (X : Cx) (K : List Int) (R : List Bool) : hpBelow 5 (H20 X K R) = true := by
  have a1 : tidyB 5 (.cells X.cells true) = true := X.smallL (by omega) 5
  have a2 : tidyB 5 (.cells X.st true) = true := small_avL X.avs
  have a3 : tidyB 5 (.cells X.lk true) = true := small_avL X.avk
  have a4 : tidyB 5 (.cells (bc R) false) = true := small_avL (bc_av R)
  have a5 : tidyB 5 (.cells (ic K) true) = true := small_avL (ic_av K)
  simp [H20, hpBelow, a1, a2, a3, a4, a5]
def rstepR (K : List Int) (i : Nat) (l : Lk) (R : List Bool) : List Bool := bif !inS K i && (R.getD l.a.toNat false || R.getD l.b.toNat false) then (R.set l.a.toNat true).set l.b.toNat true else R
theorem rstepR_len (K : List Int) (i : Nat) (l : Lk) (R : List Bool) : (rstepR K i l R).length = R.length := by
  unfold rstepR; cases (!inS K i && (R.getD l.a.toNat false || R.getD l.b.toNat false)) <;> simp
section
variable (X : Cx) {K : List Int} {sc : Option Addr} {e : Nat} (hK : K.length ≤ 1000) (hsc : Sl 2 K.length sc)
theorem pre20 (hsc : Sl 2 K.length sc) (R : List Bool) (r i : Int) : (nodupN (H20 X K R) && tmBelow 5 (U20 X (.slice sc K.length e) r i) && dsBelow 5 [] && rBelow 5 none) = true := by
  rcases hsc with ⟨h, _⟩ | h
  · simp only [U20, h]
    show _ = true
    kernel_rfl
  · simp only [U20, h]
    show _ = true
    kernel_rfl
theorem q_go (hK : K.length ≤ 1000) (hsc : Sl 2 K.length sc) {R : List Bool} {r : Int} {i : Nat} {l : Lk} (hR : R.length = X.S.length) (hi : X.ls[i]? = some l) (he : Ends X.S.length l) :
    CodeOk Try.prog none (lp Try.prog 20 7) (U20 X (.slice sc K.length e) r i) [] (H20 X K R) 5 ⟨.normal, U20 X (.slice sc K.length e) r (IntKind.i64.wrap (i + 1)), [], H20 X K (rstepR K i l R), 5⟩ := by
  obtain ⟨a, b, p, q⟩ := l
  obtain ⟨a1, a2, b1, b2⟩ := he
  obtain ⟨a, rfl⟩ : ∃ n : Nat, a = n := ⟨a.toNat, by dsimp only at a1; omega⟩
  obtain ⟨b, rfl⟩ : ∃ n : Nat, b = n := ⟨b.toNat, by dsimp only at b1; omega⟩
  dsimp only at a2 b2
  have ha : a < R.length := by omega
  have hb : b < R.length := by omega
  have l0 := X.ldL hi
  have hlt := lt_of hi
  have key : ∀ p1 p2 p3, inS K i = p1 → R.getD a false = p2 → R.getD b false = p3 →
      CodeOk Try.prog none (lp Try.prog 20 7) (U20 X (.slice sc K.length e) r i) [] (H20 X K R) 5 ⟨.normal, U20 X (.slice sc K.length e) r (IntKind.i64.wrap (i + 1)), [], H20 X K (bif !p1 && (p2 || p3) then (R.set a true).set b true else R), 5⟩ := by
    intro p1 p2 p3 h1 h2 h3
    have mi := in_m (e := e) hK hsc h1 7
    have hix1 : doIndexAddr Try.prog 22 (.slice (some ⟨4, 0, none⟩) X.S.length X.S.length) (.int .i64 a) = _ := ix_b (by omega)
    have hix2 : doIndexAddr Try.prog 22 (.slice (some ⟨4, 0, none⟩) X.S.length X.S.length) (.int .i64 b) = _ := ix_b (by omega)
    have la := ld_b (b := 4) (ro := false) ha
    have lb := ld_b (b := 4) (ro := false) hb
    rw [h2] at la
    rw [h3] at lb
    have sa := st_b (b := 4) (x := true) ha
    have sb := st_b (b := 4) (x := true) (R := R.set a true) (i := b) (by simp; omega)
    have pre := pre20 (e := e) X hsc R r i
    rcases hsc with ⟨hsc, _⟩ | hsc <;> cases p1 <;> cases p2 <;> cases p3 <;>
      (refine code_at (hs := [(27, .val (.bool (decide ((i : Int) < X.ls.length))) (.bool true)), (33, .ix 23 (.slice X.sb X.ls.length X.d) (.int .i64 i) _), (34, .ld 50 _ 1 X.lk true _), (37, .call _), (43, .ix 22 (.slice (some ⟨4, 0, none⟩) X.S.length X.S.length) (.int .i64 a) _), (44, .ld 4 _ 4 (bc R) false _), (49, .ix 22 (.slice (some ⟨4, 0, none⟩) X.S.length X.S.length) (.int .i64 b) _), (50, .ld 4 _ 4 (bc R) false _),
            (56, .ix 22 (.slice (some ⟨4, 0, none⟩) X.S.length X.S.length) (.int .i64 a) _), (100056, .st 4 _ (.bool true) 4 (bc R) _), (60, .ix 22 (.slice (some ⟨4, 0, none⟩) X.S.length X.S.length) (.int .i64 b) _), (100060, .st 4 _ (.bool true) 4 (bc (R.set a true)) _)]) (ch := []) (evk 50) special
          ⟨congrArg Value.bool (decide_eq_true (by omega)), X.ixL hlt, ⟨l0, _, rfl⟩, mi, hix1, ⟨la, _, rfl⟩, hix2, ⟨lb, _, rfl⟩, hix1, ⟨sa, _, rfl⟩, hix2, ⟨sb, _, rfl⟩, trivial⟩ trivial pre (H20_below X K R) (H20_below X K _) ?_
       simp only [U20, hsc]; kernel_rfl)
  exact key _ _ _ rfl rfl rfl
theorem q_out (hsc : Sl 2 K.length sc) (R : List Bool) (r : Int) : CodeOk Try.prog none (lp Try.prog 20 7) (U20 X (.slice sc K.length e) r X.ls.length) [] (H20 X K R) 5 ⟨.exit 2, T20 X (.slice sc K.length e) r, [], H20 X K R, 5⟩ := by
  have pre := pre20 (e := e) X hsc R r X.ls.length
  rcases hsc with ⟨hsc, _⟩ | hsc <;>
    (refine code_at (hs := [(27, .val (.bool (decide ((X.ls.length : Int) < X.ls.length))) (.bool false))]) (ch := []) (evk 50) special ⟨congrArg Value.bool (decide_eq_false (by omega)), trivial⟩ trivial pre (H20_below X K R) (H20_below X K R) ?_
     simp only [U20, T20, hsc]; kernel_rfl)
def rgoR (K : List Int) : List Lk → Nat → List Bool → List Bool
  | [], _, R => R
  | l :: r, i, R => rgoR K r (i + 1) (rstepR K i l R)
theorem rgoR_len (K : List Int) : ∀ (l : List Lk) (i : Nat) (R : List Bool), (rgoR K l i R).length = R.length
  | [], _, _ => rfl
  | l :: r, i, R => by rw [rgoR, rgoR_len K r, rstepR_len]
theorem q_loop (hK : K.length ≤ 1000) (hsc : Sl 2 K.length sc) {r : Int} (he : ∀ l ∈ X.ls, Ends X.S.length l) : ∀ (k i : Nat) (R : List Bool), R.length = X.S.length → i + k = X.ls.length →
    LoopOk Try.prog none (lp Try.prog 20 7) (U20 X (.slice sc K.length e) r i) [] (H20 X K R) 5 ⟨.exit 2, T20 X (.slice sc K.length e) r, [], H20 X K (rgoR K (X.ls.drop i) i R), 5⟩
  | 0, i, R, hR, h => by
    have : i = X.ls.length := by omega
    subst this
    rw [List.drop_length]
    exact loopOk_out (q_out X hsc R r) (by show Exit.exit 2 ≠ Exit.normal; simp)
  | k + 1, i, R, hR, h => by
    have hlt : i < X.ls.length := by omega
    have hi : X.ls[i]? = some X.ls[i] := List.getElem?_eq_getElem hlt
    have h1 := q_go (e := e) X hK hsc (r := r) hR hi (he _ (List.getElem_mem hlt))
    rw [show (i : Int) + 1 = ((i + 1 : Nat) : Int) by push_cast; rfl, wrap_nat (by have := X.hL; omega)] at h1
    rw [List.drop_eq_getElem_cons hlt]
    exact loop_step h1 (q_loop hK hsc he k (i + 1) _ (by rw [rstepR_len]; exact hR) (by omega))
termination_by k => k
theorem pre20o (hsc : Sl 2 K.length sc) (R : List Bool) (r : Int) : (nodupN (H20 X K R) && tmBelow 5 (T20 X (.slice sc K.length e) r) && dsBelow 5 [] && rBelow 5 none) = true := by
  rcases hsc with ⟨h, _⟩ | h
  · simp only [T20, h]
    show _ = true
    kernel_rfl
  · simp only [T20, h]
    show _ = true
    kernel_rfl
theorem w_go (hK : K.length ≤ 1000) (hsc : Sl 2 K.length sc) {R : List Bool} (hN : X.N = X.S.length) (hR : R.length = X.S.length) (he : ∀ l ∈ X.ls, Ends X.S.length l) {r : Nat} (hr : r < X.S.length) :
    CodeOk Try.prog none (lp Try.prog 20 4) (T20 X (.slice sc K.length e) r) [] (H20 X K R) 5 ⟨.normal, T20 X (.slice sc K.length e) (IntKind.i64.wrap (r + 1)), [], H20 X K (rgoR K X.ls 0 R), 5⟩ := by
  have hin := q_loop (e := e) X hK hsc (r := r) he X.ls.length 0 R hR (by omega)
  rw [List.drop_zero] at hin
  have pre := pre20o (e := e) X hsc R r
  rcases hsc with ⟨hsc, _⟩ | hsc <;>
    (refine code_at (hs := [(20, .val (.bool (decide ((r : Int) < X.N))) (.bool true))]) (ch := [⟨7, none, .loop (lp Try.prog 20 7), U20 X (.slice sc K.length e) r 0, [], H20 X K R, 5, _, true⟩]) (evk 50) special ⟨congrArg Value.bool (decide_eq_true (by omega)), trivial⟩ ⟨codeOk_loop hin, trivial⟩ pre (H20_below X K R) (H20_below X K _) ?_
     simp only [U20, T20, hsc]; kernel_rfl)
theorem w_out (hsc : Sl 2 K.length sc) (R : List Bool) (hN : X.N = X.S.length) : CodeOk Try.prog none (lp Try.prog 20 4) (T20 X (.slice sc K.length e) X.S.length) [] (H20 X K R) 5 ⟨.exit 0, T20 X (.slice sc K.length e) X.S.length, [], H20 X K R, 5⟩ := by
  have pre := pre20o (e := e) X hsc R X.S.length
  rcases hsc with ⟨hsc, _⟩ | hsc <;>
    (refine code_at (hs := [(20, .val (.bool (decide ((X.S.length : Int) < X.N))) (.bool false))]) (ch := []) (evk 50) special ⟨congrArg Value.bool (decide_eq_false (by omega)), trivial⟩ trivial pre (H20_below X K R) (H20_below X K R) ?_
     simp only [T20, hsc]; kernel_rfl)
def rIterR (K : List Int) (ls : List Lk) : Nat → List Bool → List Bool
  | 0, R => R
  | n + 1, R => rIterR K ls n (rgoR K ls 0 R)
theorem rIterR_len (K : List Int) (ls : List Lk) : ∀ (n : Nat) (R : List Bool), (rIterR K ls n R).length = R.length
  | 0, _ => rfl
  | n + 1, R => by rw [rIterR, rIterR_len K ls n, rgoR_len]
theorem w_loop (hK : K.length ≤ 1000) (hsc : Sl 2 K.length sc) (hN : X.N = X.S.length) (he : ∀ l ∈ X.ls, Ends X.S.length l) : ∀ (k r : Nat) (R : List Bool), R.length = X.S.length → r + k = X.S.length →
    LoopOk Try.prog none (lp Try.prog 20 4) (T20 X (.slice sc K.length e) r) [] (H20 X K R) 5 ⟨.exit 0, T20 X (.slice sc K.length e) X.S.length, [], H20 X K (rIterR K X.ls k R), 5⟩
  | 0, r, R, hR, h => by
    have : r = X.S.length := by omega
    subst this
    exact loopOk_out (w_out X hsc R hN) (by show Exit.exit 0 ≠ Exit.normal; simp)
  | k + 1, r, R, hR, h => by
    have h1 := w_go (e := e) X hK hsc hN hR he (r := r) (by omega)
    rw [show (r : Int) + 1 = ((r + 1 : Nat) : Int) by push_cast; rfl, wrap_nat (by have := X.hS; omega)] at h1
    exact loop_step h1 (w_loop hK hsc hN he k (r + 1) _ (by rw [rgoR_len]; exact hR) (by omega))
termination_by k => k
def reachR (K : List Int) (ls : List Lk) (n : Nat) (a : Nat) : List Bool := rIterR K ls n ((List.replicate n false).set a true)
def V20 (K : List Int) : List (Nat × List Value) := [(0, X.st), (1, X.lk), (2, ic K)]
theorem reachR_0 (hK : K.length ≤ 1000) (hsc : Sl 2 K.length sc) {a : Nat} (hN : X.N = X.S.length) (he : ∀ l ∈ X.ls, Ends X.S.length l) (ha : a < X.S.length) :
    Memo.Ok Try.prog ⟨20, 3, [X.v, .int .i64 a, .slice sc K.length e], V20 X K, .slice (some ⟨4, 0, none⟩) X.S.length X.S.length, [(4, bc (reachR K X.ls X.S.length a))], 5⟩ := by
  have hlo := w_loop (e := e) X hK hsc hN he X.S.length 0 ((List.replicate X.S.length false).set a true) (by simp) (by omega)
  have mk := mk22 X.hS
  rw [rep_bc] at mk
  have hix : doIndexAddr Try.prog 22 (.slice (some ⟨4, 0, none⟩) X.S.length X.S.length) (.int .i64 a) = _ := ix_b ha
  have sa := st_b (b := 4) (x := true) (R := List.replicate X.S.length false) (i := a) (by simp; omega)
  obtain ⟨N, sa', c, sb', d, st, lk, S, ls, a1, a2, a3, a4, a5, a6, a7, a8⟩ := X
  dsimp only at hN
  subst hN
  exact memo_new (hs := [(3, .frz), (13, .mk 22 _ _ _ _), (16, .ix 22 (.slice (some ⟨4, 0, none⟩) S.length S.length) (.int .i64 a) _), (100016, .st 4 _ (.bool true) 4 _ _)]) (ch := [⟨4, none, .loop (lp Try.prog 20 4), T20 _ (.slice sc K.length e) 0, [], H20 _ K _, 5, _, true⟩]) (evk 50) special ⟨trivial, mk, hix, ⟨sa, _, rfl⟩, trivial⟩ ⟨codeOk_loop hlo, trivial⟩ (by kernel_rfl)
end
end Go.Proofs.Ytkngbmaomgfcjaa.topo
