/- Parts of a proof, joined: PnD. -/
import Derived.Test.YtfpbgiaiifcnlaaPb1
/- PortNews returns true for every line and capacities, and its arguments read as before. No condition. -/
namespace Go.Proofs.Ytfpbgiaiifcnlaa.choose
open Go Go.En
set_option linter.unusedVariables false

def oc1 : Nat := openCap + 1
def oc2 : Nat := openCap + 2
theorem u27i : Try.prog.underlying 27 = some (.slice 3) := by kernel_rfl
theorem ix27i {b n c i : Nat} (h : i < n) : doIndexAddr Try.prog 27 (.slice (some ⟨b, 0, none⟩) n c) (.int .i64 i) = some (.pointer (some ⟨b, 0 + i * 1, none⟩)) := Sl.ix' (.inr rfl) u27i z3 h
theorem ic_get {D : List Int} {i : Nat} (h : i < D.length) : (ic D)[0 + i * 1]? = some (.int .i64 (D.getD i 0)) := by
  simp [ic, List.getD, List.getElem?_eq_getElem h]
theorem ld_i {b i : Nat} {D : List Int} {ro : Bool} (h : i < D.length) : doLoad Try.prog [(b, .cells (ic D) ro)] 3 (.pointer (some ⟨b, 0 + i * 1, none⟩)) = some (.int .i64 (D.getD i 0)) := ld1 z3 (ic_get h)
theorem info_of {t : TypeId} {s by_ : Nat} (hi : (Try.prog.info? t).map (fun i => (i.size, i.bytes, i.zero.map (·.cells.size))) = some (s, by_, some s)) : ∃ inf z, Try.prog.info? t = some inf ∧ inf.size = s ∧ inf.bytes = by_ ∧ inf.zero = some z ∧ z.cells.size = s := by
  cases he : Try.prog.info? t with
  | none => rw [he] at hi; cases hi
  | some inf =>
    rw [he] at hi
    simp only [Option.map_some, Option.some.injEq, Prod.mk.injEq] at hi
    obtain ⟨h1, h2, h3⟩ := hi
    cases hz : inf.zero with
    | none => rw [hz] at h3; cases h3
    | some z => rw [hz] at h3; exact ⟨inf, z, rfl, h1, h2, hz, by simpa using h3⟩
theorem ic_len (l : List Int) : (ic l).length = l.length := by simp [ic]
theorem src_ic {H : Hp} {b e : Nat} {l : List Int} {ro : Bool} (hb : H.get b = some (.cells (ic l) ro)) : srcCells H 1 (.slice (some ⟨b, 0, none⟩) l.length e) = some (l.length, ic l) := by
  by_cases h0 : l.length = 0
  · have : l = [] := List.length_eq_zero_iff.1 h0
    subst this; rfl
  · have hl : 0 + l.length * 1 ≤ (ic l).length := by rw [ic_len]; omega
    simp only [srcCells, h0, if_false, hb, hl, if_true, List.drop_zero]
    rw [List.take_of_length_le (by rw [ic_len]; omega)]
theorem app_c {a b e : Nat} {l : List Int} (h0 : 0 < l.length) (h1000 : l.length ≤ 1000) :
    Hint.Ok Try.prog (.app [27, 27] 27 [.slice (some ⟨a, 0, none⟩) 0 0, .slice (some ⟨b, 0, none⟩) l.length e] [(a, []), (b, ic l)] none l.length oc1 (ic l)) := by
  intro H nx hV _
  obtain ⟨inf, z, h1, h2, h3, h4, h5⟩ := info_of (t := 3) (s := 1) (by_ := 8) (by kernel_rfl)
  obtain ⟨r2, g2⟩ := hV b (ic l) (by simp)
  have e2 := src_ic (e := e) g2
  have hne : ¬ (l.length = 0) := by omega
  have hnc : ¬ (openCap ≤ 0) := by simp [openCap]
  have hml : l.length ≤ maxLen := by unfold maxLen; omega
  have hby : l.length * 8 ≤ 140737488355328 := by omega
  have e1 : srcCells H 1 (.slice (some ⟨a, 0, none⟩) 0 0) = some (0, []) := rfl
  simp only [doBuiltin, if_true, doAppend, u27i, h1, h2, h3, h4, e2, h5, e1, hne, h0, hml, hby, hnc, if_false, and_self, false_imp_iff, Nat.zero_lt_succ, delO, oc1, List.nil_append, Nat.zero_add]
theorem qcs_len (l : List Int) : (qcs l).length = l.length * 2 := cellsOfL_len (f := qc) (s := 2) (fun _ => rfl) l
theorem src_q {H : Hp} {b e : Nat} {l : List Int} {ro : Bool} (hb : H.get b = some (.cells (qcs l) ro)) : srcCells H 2 (.slice (some ⟨b, 0, none⟩) l.length e) = some (l.length, qcs l) := by
  by_cases h0 : l.length = 0
  · have : l = [] := List.length_eq_zero_iff.1 h0
    subst this; rfl
  · have hl : 0 + l.length * 2 ≤ (qcs l).length := by rw [qcs_len]; omega
    simp only [srcCells, h0, if_false, hb, hl, if_true, List.drop_zero]
    rw [List.take_of_length_le (by rw [qcs_len]; omega)]
theorem qcs_app (L : List Int) (x : Int) : qcs L ++ qcs [x] = qcs (L ++ [x]) := by
  induction L with
  | nil => rfl
  | cons a r ih => simp only [qcs, cellsOfL, List.cons_append, List.append_assoc] at ih ⊢; rw [ih]
/-- append(s, q) where the capacity of s is not known. -/
theorem app_q {a b : Nat} {L : List Int} {x : Int} (hlen : L.length ≤ 900) :
    Hint.Ok Try.prog (.app [29, 29] 29 [.slice (some ⟨a, 0, none⟩) L.length oc2, .slice (some ⟨b, 0, none⟩) 1 1] [(a, qcs L), (b, qcs [x])] (some a) (L ++ [x]).length oc2 (qcs (L ++ [x]))) := by
  intro H nx hV hrw
  obtain ⟨inf, z, h1, h2, h3, h4, h5⟩ := info_of (t := 43) (s := 2) (by_ := 32) (by kernel_rfl)
  obtain ⟨r1, g1⟩ := hV a (qcs L) (by simp)
  obtain ⟨r2, g2⟩ := hV b (qcs [x]) (by simp)
  have hr1 : r1 = false := by simp only [rwO, g1] at hrw; cases r1 <;> simp at hrw ⊢
  subst hr1
  have e1 := src_q (e := openCap + 2) g1
  have e2 : srcCells H 2 (.slice (some ⟨b, 0, none⟩) 1 1) = some (1, qcs [x]) := src_q (e := 1) g2
  have hnc : openCap ≤ openCap + 2 := by omega
  have hml : L.length + 1 ≤ maxLen := by unfold maxLen; omega
  have hby : (L.length + 1) * 32 ≤ 140737488355328 := by omega
  have hlt : ¬ (openCap + 2 < L.length + 1) := by unfold openCap; omega
  have hap : qcs L ++ qcs [x] = qcs (L ++ [x]) := qcs_app L x
  have hln : L.length + 1 = (L ++ [x]).length := by simp
  have h10 : ¬ ((1 : Nat) = 0) := by omega
  have hone : oneL (qcs [x]) = true := rfl
  have h02 : (0 : Nat) < 2 := by omega
  simp only [doBuiltin, if_true, doAppend, oc2, u29, h1, h2, h3, h4, e2, h5, e1, h10, hlt, hml, hby, hnc, if_false, and_self, h02, delO, Nat.add_sub_cancel_left, imp_self, g1, hone, hap, ← hln]
def slQ (b : Nat) : List Int → Value
  | [] => .slice none 0 0
  | x :: r => .slice (some ⟨b, 0, none⟩) (x :: r).length oc2
def hpQ (b : Nat) (L : List Int) (H : Hp) : Hp := match L with
  | [] => H
  | x :: r => (b, .cells (qcs (x :: r)) false) :: H
def badC (x : Int) : Bool := decide (x < 0) || decide (x > 65536)
def badG : List Int → Bool → Bool
  | [], b => b
  | x :: r, b => badG r (b || badC x)
def T3 (p w n : Nat) (e : Int) (b : Bool) (i : Int) : List Value := mkT 85 0 [(6, pt p), (7, .int .i64 e), (8, pt w), (9, .bool b), (49, .slice (some ⟨8, 0, none⟩) n oc1), (50, .int .i64 n), (51, .int .i64 i)]
def TX3 (p w : Nat) (e : Int) (b : Bool) : List Value := mkT 85 0 [(6, pt p), (7, .int .i64 e), (8, pt w), (9, .bool b)]
def HW (w : Nat) (n c : Nat) (cyc per sh : Int) (q : Value) (C : List Int) : Hp := [(w, .cells (pcells (esl n c) cyc per sh q) false), (8, .cells (ic C) false)]
section
variable {n c : Nat} {cyc per sh e : Int} {C : List Int}
theorem wA_go {L : List Int} {i : Nat} {b : Bool} (hL : L.length ≤ 900) (hi : i < C.length) :
    CodeOk Try.prog none (lp Try.prog 3 11) (T3 9 10 C.length e b i) [] (hpQ 13 L (HW 10 n c cyc per sh (slQ 13 L) C)) 14 ⟨.normal, T3 9 10 C.length e (b || badC (C.getD i 0)) (W (i + 1)), [], (hpQ 15 (L ++ [C.getD i 0]) (HW 10 n c cyc per sh (slQ 15 (L ++ [C.getD i 0])) C)), 16⟩ := by
  have hd : decide ((i : Int) < C.length) = true := decide_eq_true (by omega)
  have l1 := ld_i (b := 8) (ro := false) hi
  unfold badC
  generalize C.getD i 0 = x at l1 ⊢
  have key : ∀ q1 q2, decide (x < 0) = q1 → decide (x > 65536) = q2 → CodeOk Try.prog none (lp Try.prog 3 11) (T3 9 10 C.length e b i) [] (hpQ 13 L (HW 10 n c cyc per sh (slQ 13 L) C)) 14 ⟨.normal, T3 9 10 C.length e (b || (q1 || q2)) (W (i + 1)), [], hpQ 15 (L ++ [x]) (HW 10 n c cyc per sh (slQ 15 (L ++ [x])) C), 16⟩ := by
    intro q1 q2 e1 e2
    have ap := app_q (a := 13) (b := 14) (L := L) (x := x) hL
    cases L with
    | nil =>
      cases b
      · cases q1
        · cases q2
          · exact code_k [15, 10, 8] (hs := [(52, .val (.bool (decide ((i : Int) < C.length))) (.bool true)), (53, .ix 27 (.slice (some ⟨8, 0, none⟩) C.length oc1) (.int .i64 i) _), (54, .ld 3 _ 8 (ic C) false _), (58, .val (.bool (decide (x < 0))) (.bool _)), (62, .val (.bool (decide (x > 65536))) (.bool _))]) (ch := []) (evk 50) special ⟨congrArg Value.bool hd, ix27i hi, ⟨l1, _, rfl⟩, congrArg Value.bool e1, congrArg Value.bool e2, trivial⟩ trivial (by kernel_rfl)
          · exact code_k [15, 10, 8] (hs := [(52, .val (.bool (decide ((i : Int) < C.length))) (.bool true)), (53, .ix 27 (.slice (some ⟨8, 0, none⟩) C.length oc1) (.int .i64 i) _), (54, .ld 3 _ 8 (ic C) false _), (58, .val (.bool (decide (x < 0))) (.bool _)), (62, .val (.bool (decide (x > 65536))) (.bool _))]) (ch := []) (evk 50) special ⟨congrArg Value.bool hd, ix27i hi, ⟨l1, _, rfl⟩, congrArg Value.bool e1, congrArg Value.bool e2, trivial⟩ trivial (by kernel_rfl)
        · cases q2
          · exact code_k [15, 10, 8] (hs := [(52, .val (.bool (decide ((i : Int) < C.length))) (.bool true)), (53, .ix 27 (.slice (some ⟨8, 0, none⟩) C.length oc1) (.int .i64 i) _), (54, .ld 3 _ 8 (ic C) false _), (58, .val (.bool (decide (x < 0))) (.bool _))]) (ch := []) (evk 50) special ⟨congrArg Value.bool hd, ix27i hi, ⟨l1, _, rfl⟩, congrArg Value.bool e1, trivial⟩ trivial (by kernel_rfl)
          · exact code_k [15, 10, 8] (hs := [(52, .val (.bool (decide ((i : Int) < C.length))) (.bool true)), (53, .ix 27 (.slice (some ⟨8, 0, none⟩) C.length oc1) (.int .i64 i) _), (54, .ld 3 _ 8 (ic C) false _), (58, .val (.bool (decide (x < 0))) (.bool _))]) (ch := []) (evk 50) special ⟨congrArg Value.bool hd, ix27i hi, ⟨l1, _, rfl⟩, congrArg Value.bool e1, trivial⟩ trivial (by kernel_rfl)
      · cases q1 <;> cases q2
        · exact code_k [15, 10, 8] (hs := [(52, .val (.bool (decide ((i : Int) < C.length))) (.bool true)), (53, .ix 27 (.slice (some ⟨8, 0, none⟩) C.length oc1) (.int .i64 i) _), (54, .ld 3 _ 8 (ic C) false _)]) (ch := []) (evk 50) special ⟨congrArg Value.bool hd, ix27i hi, ⟨l1, _, rfl⟩, trivial⟩ trivial (by kernel_rfl)
        · exact code_k [15, 10, 8] (hs := [(52, .val (.bool (decide ((i : Int) < C.length))) (.bool true)), (53, .ix 27 (.slice (some ⟨8, 0, none⟩) C.length oc1) (.int .i64 i) _), (54, .ld 3 _ 8 (ic C) false _)]) (ch := []) (evk 50) special ⟨congrArg Value.bool hd, ix27i hi, ⟨l1, _, rfl⟩, trivial⟩ trivial (by kernel_rfl)
        · exact code_k [15, 10, 8] (hs := [(52, .val (.bool (decide ((i : Int) < C.length))) (.bool true)), (53, .ix 27 (.slice (some ⟨8, 0, none⟩) C.length oc1) (.int .i64 i) _), (54, .ld 3 _ 8 (ic C) false _)]) (ch := []) (evk 50) special ⟨congrArg Value.bool hd, ix27i hi, ⟨l1, _, rfl⟩, trivial⟩ trivial (by kernel_rfl)
        · exact code_k [15, 10, 8] (hs := [(52, .val (.bool (decide ((i : Int) < C.length))) (.bool true)), (53, .ix 27 (.slice (some ⟨8, 0, none⟩) C.length oc1) (.int .i64 i) _), (54, .ld 3 _ 8 (ic C) false _)]) (ch := []) (evk 50) special ⟨congrArg Value.bool hd, ix27i hi, ⟨l1, _, rfl⟩, trivial⟩ trivial (by kernel_rfl)
    | cons y r =>
      cases b
      · cases q1
        · cases q2
          · exact code_k [15, 10, 8] (hs := [(52, .val (.bool (decide ((i : Int) < C.length))) (.bool true)), (53, .ix 27 (.slice (some ⟨8, 0, none⟩) C.length oc1) (.int .i64 i) _), (54, .ld 3 _ 8 (ic C) false _), (58, .val (.bool (decide (x < 0))) (.bool _)), (62, .val (.bool (decide (x > 65536))) (.bool _)), (69, .app _ _ _ _ _ _ _ _)]) (ch := []) (evk 50) special ⟨congrArg Value.bool hd, ix27i hi, ⟨l1, _, rfl⟩, congrArg Value.bool e1, congrArg Value.bool e2, ap, trivial⟩ trivial (by kernel_rfl)
          · exact code_k [15, 10, 8] (hs := [(52, .val (.bool (decide ((i : Int) < C.length))) (.bool true)), (53, .ix 27 (.slice (some ⟨8, 0, none⟩) C.length oc1) (.int .i64 i) _), (54, .ld 3 _ 8 (ic C) false _), (58, .val (.bool (decide (x < 0))) (.bool _)), (62, .val (.bool (decide (x > 65536))) (.bool _)), (69, .app _ _ _ _ _ _ _ _)]) (ch := []) (evk 50) special ⟨congrArg Value.bool hd, ix27i hi, ⟨l1, _, rfl⟩, congrArg Value.bool e1, congrArg Value.bool e2, ap, trivial⟩ trivial (by kernel_rfl)
        · cases q2
          · exact code_k [15, 10, 8] (hs := [(52, .val (.bool (decide ((i : Int) < C.length))) (.bool true)), (53, .ix 27 (.slice (some ⟨8, 0, none⟩) C.length oc1) (.int .i64 i) _), (54, .ld 3 _ 8 (ic C) false _), (58, .val (.bool (decide (x < 0))) (.bool _)), (69, .app _ _ _ _ _ _ _ _)]) (ch := []) (evk 50) special ⟨congrArg Value.bool hd, ix27i hi, ⟨l1, _, rfl⟩, congrArg Value.bool e1, ap, trivial⟩ trivial (by kernel_rfl)
          · exact code_k [15, 10, 8] (hs := [(52, .val (.bool (decide ((i : Int) < C.length))) (.bool true)), (53, .ix 27 (.slice (some ⟨8, 0, none⟩) C.length oc1) (.int .i64 i) _), (54, .ld 3 _ 8 (ic C) false _), (58, .val (.bool (decide (x < 0))) (.bool _)), (69, .app _ _ _ _ _ _ _ _)]) (ch := []) (evk 50) special ⟨congrArg Value.bool hd, ix27i hi, ⟨l1, _, rfl⟩, congrArg Value.bool e1, ap, trivial⟩ trivial (by kernel_rfl)
      · cases q1 <;> cases q2
        · exact code_k [15, 10, 8] (hs := [(52, .val (.bool (decide ((i : Int) < C.length))) (.bool true)), (53, .ix 27 (.slice (some ⟨8, 0, none⟩) C.length oc1) (.int .i64 i) _), (54, .ld 3 _ 8 (ic C) false _), (69, .app _ _ _ _ _ _ _ _)]) (ch := []) (evk 50) special ⟨congrArg Value.bool hd, ix27i hi, ⟨l1, _, rfl⟩, ap, trivial⟩ trivial (by kernel_rfl)
        · exact code_k [15, 10, 8] (hs := [(52, .val (.bool (decide ((i : Int) < C.length))) (.bool true)), (53, .ix 27 (.slice (some ⟨8, 0, none⟩) C.length oc1) (.int .i64 i) _), (54, .ld 3 _ 8 (ic C) false _), (69, .app _ _ _ _ _ _ _ _)]) (ch := []) (evk 50) special ⟨congrArg Value.bool hd, ix27i hi, ⟨l1, _, rfl⟩, ap, trivial⟩ trivial (by kernel_rfl)
        · exact code_k [15, 10, 8] (hs := [(52, .val (.bool (decide ((i : Int) < C.length))) (.bool true)), (53, .ix 27 (.slice (some ⟨8, 0, none⟩) C.length oc1) (.int .i64 i) _), (54, .ld 3 _ 8 (ic C) false _), (69, .app _ _ _ _ _ _ _ _)]) (ch := []) (evk 50) special ⟨congrArg Value.bool hd, ix27i hi, ⟨l1, _, rfl⟩, ap, trivial⟩ trivial (by kernel_rfl)
        · exact code_k [15, 10, 8] (hs := [(52, .val (.bool (decide ((i : Int) < C.length))) (.bool true)), (53, .ix 27 (.slice (some ⟨8, 0, none⟩) C.length oc1) (.int .i64 i) _), (54, .ld 3 _ 8 (ic C) false _), (69, .app _ _ _ _ _ _ _ _)]) (ch := []) (evk 50) special ⟨congrArg Value.bool hd, ix27i hi, ⟨l1, _, rfl⟩, ap, trivial⟩ trivial (by kernel_rfl)
  exact key _ _ rfl rfl
theorem wA_out {L : List Int} {b : Bool} :
    CodeOk Try.prog none (lp Try.prog 3 11) (T3 9 10 C.length e b C.length) [] (hpQ 13 L (HW 10 n c cyc per sh (slQ 13 L) C)) 14 ⟨.exit 0, TX3 9 10 e b, [], (hpQ 13 L (HW 10 n c cyc per sh (slQ 13 L) C)), 14⟩ := by
  have hd : decide ((C.length : Int) < C.length) = false := decide_eq_false (by omega)
  cases L with
  | nil => exact code_k [10, 8] (hs := [(52, .val (.bool (decide ((C.length : Int) < C.length))) (.bool false))]) (ch := []) (evk 50) special ⟨congrArg Value.bool hd, trivial⟩ trivial (by kernel_rfl)
  | cons x r => exact code_k [13, 10, 8] (hs := [(52, .val (.bool (decide ((C.length : Int) < C.length))) (.bool false))]) (ch := []) (evk 50) special ⟨congrArg Value.bool hd, trivial⟩ trivial (by kernel_rfl)
def σA : Nat → Nat := fun b => if b = 13 then 15 else b
theorem hA_ren (L : List Int) : renHp σA (hpQ 13 L (HW 10 n c cyc per sh (slQ 13 L) C)) = hpQ 15 L (HW 10 n c cyc per sh (slQ 15 L) C) := by
  cases L with
  | nil => simp only [hpQ, HW, renHp, renBlk, slQ, σA, renV_avL (ic_av C)]; rfl
  | cons x r => simp only [hpQ, HW, renHp, renBlk, slQ, σA, qcs_ren, renV_avL (ic_av C)]; rfl
theorem hA_below (L : List Int) : hpBelow 14 (hpQ 13 L (HW 10 n c cyc per sh (slQ 13 L) C)) = true := by
  have a1 : tidyB 14 (.cells (ic C) false) = true := small_avL (ic_av C)
  have a2 : ∀ q, En.small 14 5 q = true → tidyB 14 (.cells (pcells (esl n c) cyc per sh q) false) = true := fun q hq => by
    simp [tidyB, pcells, zp7, esl, En.smallL, En.small, hq]
  cases L with
  | nil => simp only [hpQ, HW, hpBelow, a1, a2 (slQ 13 []) rfl]; rfl
  | cons x r =>
    have a3 : tidyB 14 (.cells (qcs (x :: r)) false) = true := qcs_small _
    simp only [hpQ, HW, hpBelow, a1, a2 (slQ 13 (x :: r)) (by simp [slQ, En.small]), a3]; rfl
theorem wA_loop (hC : C.length ≤ 800) : ∀ (r i : Nat) (L : List Int) (b : Bool), i + r = C.length → L = C.take i →
    LoopL Try.prog 13 none (lp Try.prog 3 11) (T3 9 10 C.length e b i) [] (hpQ 13 L (HW 10 n c cyc per sh (slQ 13 L) C)) 14 ⟨.exit 0, TX3 9 10 e (badG (C.drop i) b), [], hpQ 13 C (HW 10 n c cyc per sh (slQ 13 C) C), 16⟩
  | 0, i, L, b, h, hL => by
    have : i = C.length := by omega
    subst this
    rw [List.take_length] at hL
    subst hL
    rw [List.drop_length]
    exact loopL_out (wA_out) (by show Exit.exit 0 ≠ Exit.normal; simp) (by omega) (M := 16) (by show 14 ≤ 16; omega)
  | r + 1, i, L, b, h, hL => by
    have hi : i < C.length := by omega
    have hlen : L.length = i := by rw [hL]; simp; omega
    have hL2 : L ++ [C.getD i 0] = C.take (i + 1) := by
      rw [hL, List.take_add_one, c_at hi]; rfl
    have hw : W ((i : Int) + 1) = ((i + 1 : Nat) : Int) := by
      rw [show (i : Int) + 1 = ((i + 1 : Nat) : Int) by push_cast; rfl]; exact wrap_nat (by omega)
    have ih := wA_loop hC r (i + 1) (L ++ [C.getD i 0]) (b || badC (C.getD i 0)) (by omega) hL2
    have h1 := wA_go (n := n) (c := c) (cyc := cyc) (per := per) (sh := sh) (e := e) (C := C) (L := L) (i := i) (b := b) (by omega) hi
    rw [hw] at h1
    have hdr : C.drop i = C.getD i 0 :: C.drop (i + 1) := by
      rw [List.drop_eq_getElem_cons hi]
      congr 1
      rw [List.getD_eq_getElem?_getD, List.getElem?_eq_getElem hi]; rfl
    rw [hdr]
    simp only [badG]
    refine loopL_step σA (n1 := 16) ?_ ih (by show 16 ≤ 16; omega) (fun b hb => by simp only [σA]; rw [if_neg (by omega)]) (by rw [hA_ren]; cases L <;> kernel_rfl) (hA_below _)
    rw [hA_ren]
    exact h1
termination_by r => r
theorem wB_go {L : List Int} {i : Nat} {b : Bool} (hL : L.length ≤ 900) (hi : i < C.length) :
    CodeOk Try.prog none (lp Try.prog 3 11) (T3 14 15 C.length e b i) [] (hpQ 18 L (HW 15 n c cyc per sh (slQ 18 L) C)) 19 ⟨.normal, T3 14 15 C.length e (b || badC (C.getD i 0)) (W (i + 1)), [], (hpQ 20 (L ++ [C.getD i 0]) (HW 15 n c cyc per sh (slQ 20 (L ++ [C.getD i 0])) C)), 21⟩ := by
  have hd : decide ((i : Int) < C.length) = true := decide_eq_true (by omega)
  have l1 := ld_i (b := 8) (ro := false) hi
  unfold badC
  generalize C.getD i 0 = x at l1 ⊢
  have key : ∀ q1 q2, decide (x < 0) = q1 → decide (x > 65536) = q2 → CodeOk Try.prog none (lp Try.prog 3 11) (T3 14 15 C.length e b i) [] (hpQ 18 L (HW 15 n c cyc per sh (slQ 18 L) C)) 19 ⟨.normal, T3 14 15 C.length e (b || (q1 || q2)) (W (i + 1)), [], hpQ 20 (L ++ [x]) (HW 15 n c cyc per sh (slQ 20 (L ++ [x])) C), 21⟩ := by
    intro q1 q2 e1 e2
    have ap := app_q (a := 18) (b := 19) (L := L) (x := x) hL
    cases L with
    | nil =>
      cases b
      · cases q1
        · cases q2
          · exact code_k [20, 15, 8] (hs := [(52, .val (.bool (decide ((i : Int) < C.length))) (.bool true)), (53, .ix 27 (.slice (some ⟨8, 0, none⟩) C.length oc1) (.int .i64 i) _), (54, .ld 3 _ 8 (ic C) false _), (58, .val (.bool (decide (x < 0))) (.bool _)), (62, .val (.bool (decide (x > 65536))) (.bool _))]) (ch := []) (evk 50) special ⟨congrArg Value.bool hd, ix27i hi, ⟨l1, _, rfl⟩, congrArg Value.bool e1, congrArg Value.bool e2, trivial⟩ trivial (by kernel_rfl)
          · exact code_k [20, 15, 8] (hs := [(52, .val (.bool (decide ((i : Int) < C.length))) (.bool true)), (53, .ix 27 (.slice (some ⟨8, 0, none⟩) C.length oc1) (.int .i64 i) _), (54, .ld 3 _ 8 (ic C) false _), (58, .val (.bool (decide (x < 0))) (.bool _)), (62, .val (.bool (decide (x > 65536))) (.bool _))]) (ch := []) (evk 50) special ⟨congrArg Value.bool hd, ix27i hi, ⟨l1, _, rfl⟩, congrArg Value.bool e1, congrArg Value.bool e2, trivial⟩ trivial (by kernel_rfl)
        · cases q2
          · exact code_k [20, 15, 8] (hs := [(52, .val (.bool (decide ((i : Int) < C.length))) (.bool true)), (53, .ix 27 (.slice (some ⟨8, 0, none⟩) C.length oc1) (.int .i64 i) _), (54, .ld 3 _ 8 (ic C) false _), (58, .val (.bool (decide (x < 0))) (.bool _))]) (ch := []) (evk 50) special ⟨congrArg Value.bool hd, ix27i hi, ⟨l1, _, rfl⟩, congrArg Value.bool e1, trivial⟩ trivial (by kernel_rfl)
          · exact code_k [20, 15, 8] (hs := [(52, .val (.bool (decide ((i : Int) < C.length))) (.bool true)), (53, .ix 27 (.slice (some ⟨8, 0, none⟩) C.length oc1) (.int .i64 i) _), (54, .ld 3 _ 8 (ic C) false _), (58, .val (.bool (decide (x < 0))) (.bool _))]) (ch := []) (evk 50) special ⟨congrArg Value.bool hd, ix27i hi, ⟨l1, _, rfl⟩, congrArg Value.bool e1, trivial⟩ trivial (by kernel_rfl)
      · cases q1 <;> cases q2
        · exact code_k [20, 15, 8] (hs := [(52, .val (.bool (decide ((i : Int) < C.length))) (.bool true)), (53, .ix 27 (.slice (some ⟨8, 0, none⟩) C.length oc1) (.int .i64 i) _), (54, .ld 3 _ 8 (ic C) false _)]) (ch := []) (evk 50) special ⟨congrArg Value.bool hd, ix27i hi, ⟨l1, _, rfl⟩, trivial⟩ trivial (by kernel_rfl)
        · exact code_k [20, 15, 8] (hs := [(52, .val (.bool (decide ((i : Int) < C.length))) (.bool true)), (53, .ix 27 (.slice (some ⟨8, 0, none⟩) C.length oc1) (.int .i64 i) _), (54, .ld 3 _ 8 (ic C) false _)]) (ch := []) (evk 50) special ⟨congrArg Value.bool hd, ix27i hi, ⟨l1, _, rfl⟩, trivial⟩ trivial (by kernel_rfl)
        · exact code_k [20, 15, 8] (hs := [(52, .val (.bool (decide ((i : Int) < C.length))) (.bool true)), (53, .ix 27 (.slice (some ⟨8, 0, none⟩) C.length oc1) (.int .i64 i) _), (54, .ld 3 _ 8 (ic C) false _)]) (ch := []) (evk 50) special ⟨congrArg Value.bool hd, ix27i hi, ⟨l1, _, rfl⟩, trivial⟩ trivial (by kernel_rfl)
        · exact code_k [20, 15, 8] (hs := [(52, .val (.bool (decide ((i : Int) < C.length))) (.bool true)), (53, .ix 27 (.slice (some ⟨8, 0, none⟩) C.length oc1) (.int .i64 i) _), (54, .ld 3 _ 8 (ic C) false _)]) (ch := []) (evk 50) special ⟨congrArg Value.bool hd, ix27i hi, ⟨l1, _, rfl⟩, trivial⟩ trivial (by kernel_rfl)
    | cons y r =>
      cases b
      · cases q1
        · cases q2
          · exact code_k [20, 15, 8] (hs := [(52, .val (.bool (decide ((i : Int) < C.length))) (.bool true)), (53, .ix 27 (.slice (some ⟨8, 0, none⟩) C.length oc1) (.int .i64 i) _), (54, .ld 3 _ 8 (ic C) false _), (58, .val (.bool (decide (x < 0))) (.bool _)), (62, .val (.bool (decide (x > 65536))) (.bool _)), (69, .app _ _ _ _ _ _ _ _)]) (ch := []) (evk 50) special ⟨congrArg Value.bool hd, ix27i hi, ⟨l1, _, rfl⟩, congrArg Value.bool e1, congrArg Value.bool e2, ap, trivial⟩ trivial (by kernel_rfl)
          · exact code_k [20, 15, 8] (hs := [(52, .val (.bool (decide ((i : Int) < C.length))) (.bool true)), (53, .ix 27 (.slice (some ⟨8, 0, none⟩) C.length oc1) (.int .i64 i) _), (54, .ld 3 _ 8 (ic C) false _), (58, .val (.bool (decide (x < 0))) (.bool _)), (62, .val (.bool (decide (x > 65536))) (.bool _)), (69, .app _ _ _ _ _ _ _ _)]) (ch := []) (evk 50) special ⟨congrArg Value.bool hd, ix27i hi, ⟨l1, _, rfl⟩, congrArg Value.bool e1, congrArg Value.bool e2, ap, trivial⟩ trivial (by kernel_rfl)
        · cases q2
          · exact code_k [20, 15, 8] (hs := [(52, .val (.bool (decide ((i : Int) < C.length))) (.bool true)), (53, .ix 27 (.slice (some ⟨8, 0, none⟩) C.length oc1) (.int .i64 i) _), (54, .ld 3 _ 8 (ic C) false _), (58, .val (.bool (decide (x < 0))) (.bool _)), (69, .app _ _ _ _ _ _ _ _)]) (ch := []) (evk 50) special ⟨congrArg Value.bool hd, ix27i hi, ⟨l1, _, rfl⟩, congrArg Value.bool e1, ap, trivial⟩ trivial (by kernel_rfl)
          · exact code_k [20, 15, 8] (hs := [(52, .val (.bool (decide ((i : Int) < C.length))) (.bool true)), (53, .ix 27 (.slice (some ⟨8, 0, none⟩) C.length oc1) (.int .i64 i) _), (54, .ld 3 _ 8 (ic C) false _), (58, .val (.bool (decide (x < 0))) (.bool _)), (69, .app _ _ _ _ _ _ _ _)]) (ch := []) (evk 50) special ⟨congrArg Value.bool hd, ix27i hi, ⟨l1, _, rfl⟩, congrArg Value.bool e1, ap, trivial⟩ trivial (by kernel_rfl)
      · cases q1 <;> cases q2
        · exact code_k [20, 15, 8] (hs := [(52, .val (.bool (decide ((i : Int) < C.length))) (.bool true)), (53, .ix 27 (.slice (some ⟨8, 0, none⟩) C.length oc1) (.int .i64 i) _), (54, .ld 3 _ 8 (ic C) false _), (69, .app _ _ _ _ _ _ _ _)]) (ch := []) (evk 50) special ⟨congrArg Value.bool hd, ix27i hi, ⟨l1, _, rfl⟩, ap, trivial⟩ trivial (by kernel_rfl)
        · exact code_k [20, 15, 8] (hs := [(52, .val (.bool (decide ((i : Int) < C.length))) (.bool true)), (53, .ix 27 (.slice (some ⟨8, 0, none⟩) C.length oc1) (.int .i64 i) _), (54, .ld 3 _ 8 (ic C) false _), (69, .app _ _ _ _ _ _ _ _)]) (ch := []) (evk 50) special ⟨congrArg Value.bool hd, ix27i hi, ⟨l1, _, rfl⟩, ap, trivial⟩ trivial (by kernel_rfl)
        · exact code_k [20, 15, 8] (hs := [(52, .val (.bool (decide ((i : Int) < C.length))) (.bool true)), (53, .ix 27 (.slice (some ⟨8, 0, none⟩) C.length oc1) (.int .i64 i) _), (54, .ld 3 _ 8 (ic C) false _), (69, .app _ _ _ _ _ _ _ _)]) (ch := []) (evk 50) special ⟨congrArg Value.bool hd, ix27i hi, ⟨l1, _, rfl⟩, ap, trivial⟩ trivial (by kernel_rfl)
        · exact code_k [20, 15, 8] (hs := [(52, .val (.bool (decide ((i : Int) < C.length))) (.bool true)), (53, .ix 27 (.slice (some ⟨8, 0, none⟩) C.length oc1) (.int .i64 i) _), (54, .ld 3 _ 8 (ic C) false _), (69, .app _ _ _ _ _ _ _ _)]) (ch := []) (evk 50) special ⟨congrArg Value.bool hd, ix27i hi, ⟨l1, _, rfl⟩, ap, trivial⟩ trivial (by kernel_rfl)
  exact key _ _ rfl rfl
theorem wB_out {L : List Int} {b : Bool} :
    CodeOk Try.prog none (lp Try.prog 3 11) (T3 14 15 C.length e b C.length) [] (hpQ 18 L (HW 15 n c cyc per sh (slQ 18 L) C)) 19 ⟨.exit 0, TX3 14 15 e b, [], (hpQ 18 L (HW 15 n c cyc per sh (slQ 18 L) C)), 19⟩ := by
  have hd : decide ((C.length : Int) < C.length) = false := decide_eq_false (by omega)
  cases L with
  | nil => exact code_k [15, 8] (hs := [(52, .val (.bool (decide ((C.length : Int) < C.length))) (.bool false))]) (ch := []) (evk 50) special ⟨congrArg Value.bool hd, trivial⟩ trivial (by kernel_rfl)
  | cons x r => exact code_k [18, 15, 8] (hs := [(52, .val (.bool (decide ((C.length : Int) < C.length))) (.bool false))]) (ch := []) (evk 50) special ⟨congrArg Value.bool hd, trivial⟩ trivial (by kernel_rfl)
def σB : Nat → Nat := fun b => if b = 18 then 20 else b
theorem hB_ren (L : List Int) : renHp σB (hpQ 18 L (HW 15 n c cyc per sh (slQ 18 L) C)) = hpQ 20 L (HW 15 n c cyc per sh (slQ 20 L) C) := by
  cases L with
  | nil => simp only [hpQ, HW, renHp, renBlk, slQ, σB, renV_avL (ic_av C)]; rfl
  | cons x r => simp only [hpQ, HW, renHp, renBlk, slQ, σB, qcs_ren, renV_avL (ic_av C)]; rfl
theorem hB_below (L : List Int) : hpBelow 19 (hpQ 18 L (HW 15 n c cyc per sh (slQ 18 L) C)) = true := by
  have a1 : tidyB 19 (.cells (ic C) false) = true := small_avL (ic_av C)
  have a2 : ∀ q, En.small 19 5 q = true → tidyB 19 (.cells (pcells (esl n c) cyc per sh q) false) = true := fun q hq => by
    simp [tidyB, pcells, zp7, esl, En.smallL, En.small, hq]
  cases L with
  | nil => simp only [hpQ, HW, hpBelow, a1, a2 (slQ 18 []) rfl]; rfl
  | cons x r =>
    have a3 : tidyB 19 (.cells (qcs (x :: r)) false) = true := qcs_small _
    simp only [hpQ, HW, hpBelow, a1, a2 (slQ 18 (x :: r)) (by simp [slQ, En.small]), a3]; rfl
theorem wB_loop (hC : C.length ≤ 800) : ∀ (r i : Nat) (L : List Int) (b : Bool), i + r = C.length → L = C.take i →
    LoopL Try.prog 18 none (lp Try.prog 3 11) (T3 14 15 C.length e b i) [] (hpQ 18 L (HW 15 n c cyc per sh (slQ 18 L) C)) 19 ⟨.exit 0, TX3 14 15 e (badG (C.drop i) b), [], hpQ 18 C (HW 15 n c cyc per sh (slQ 18 C) C), 21⟩
  | 0, i, L, b, h, hL => by
    have : i = C.length := by omega
    subst this
    rw [List.take_length] at hL
    subst hL
    rw [List.drop_length]
    exact loopL_out (wB_out) (by show Exit.exit 0 ≠ Exit.normal; simp) (by omega) (M := 21) (by show 19 ≤ 21; omega)
  | r + 1, i, L, b, h, hL => by
    have hi : i < C.length := by omega
    have hlen : L.length = i := by rw [hL]; simp; omega
    have hL2 : L ++ [C.getD i 0] = C.take (i + 1) := by
      rw [hL, List.take_add_one, c_at hi]; rfl
    have hw : W ((i : Int) + 1) = ((i + 1 : Nat) : Int) := by
      rw [show (i : Int) + 1 = ((i + 1 : Nat) : Int) by push_cast; rfl]; exact wrap_nat (by omega)
    have ih := wB_loop hC r (i + 1) (L ++ [C.getD i 0]) (b || badC (C.getD i 0)) (by omega) hL2
    have h1 := wB_go (n := n) (c := c) (cyc := cyc) (per := per) (sh := sh) (e := e) (C := C) (L := L) (i := i) (b := b) (by omega) hi
    rw [hw] at h1
    have hdr : C.drop i = C.getD i 0 :: C.drop (i + 1) := by
      rw [List.drop_eq_getElem_cons hi]
      congr 1
      rw [List.getD_eq_getElem?_getD, List.getElem?_eq_getElem hi]; rfl
    rw [hdr]
    simp only [badG]
    refine loopL_step σB (n1 := 21) ?_ ih (by show 21 ≤ 21; omega) (fun b hb => by simp only [σB]; rw [if_neg (by omega)]) (by rw [hB_ren]; cases L <;> kernel_rfl) (hB_below _)
    rw [hB_ren]
    exact h1
termination_by r => r
end
end Go.Proofs.Ytfpbgiaiifcnlaa.choose
