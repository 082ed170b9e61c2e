/- QueueOrders: lists of items and steps, appends; Push at a queue whose capacity is not known. -/
import Derived.Test.YtddhglcmfoopnaaFnT
import Derived.Test.YtddhglcmfoopnaaEnON
namespace Go.Proofs.Ytddhglcmfoopnaa.queue
open Go Go.En
set_option linter.unusedVariables false

/-! ### Lists of flat elements in a block -/
theorem cellsOfL_len {α : Type} {f : α → List Value} {s : Nat} (hf : ∀ a, (f a).length = s) : ∀ l : List α, (cellsOfL f l).length = l.length * s
  | [] => by simp [cellsOfL]
  | a :: l => by simp [cellsOfL, hf a, cellsOfL_len hf l, Nat.add_mul, Nat.add_comm]
theorem cellsOfL_get {α : Type} {f : α → List Value} {s : Nat} (hf : ∀ a, (f a).length = s) : ∀ {l : List α} {i : Nat} {a : α}, l[i]? = some a → ∀ (j : Nat) v, (f a)[j]? = some v → (cellsOfL f l)[0 + i * s + j]? = some v
  | [], i, a, h, j, v, hv => by simp at h
  | b :: l, 0, a, h, j, v, hv => by
    simp only [List.getElem?_cons_zero, Option.some.injEq] at h
    subst h
    have := (List.getElem?_eq_some_iff.1 hv).1
    simp only [cellsOfL]
    rw [List.getElem?_append_left (by omega)]
    simpa using hv
  | b :: l, i + 1, a, h, j, v, hv => by
    simp only [List.getElem?_cons_succ] at h
    have := cellsOfL_get hf h j v hv
    simp only [cellsOfL]
    rw [List.getElem?_append_right (by rw [hf, Nat.add_mul]; omega), ← this]
    congr 1
    rw [hf, Nat.add_mul]; omega
theorem cellsOfL_append {α : Type} (f : α → List Value) : ∀ l m : List α, cellsOfL f (l ++ m) = cellsOfL f l ++ cellsOfL f m
  | [], m => rfl
  | a :: l, m => by simp [cellsOfL, cellsOfL_append f l m]
theorem avL_cellsOfL {α : Type} {f : α → List Value} (hf : ∀ a, avL (f a) = true) : ∀ l : List α, avL (cellsOfL f l) = true
  | [] => rfl
  | a :: l => avL_app (hf a) (avL_cellsOfL hf l)
abbrev ics (L : List It) : List Value := cellsOfL It.cells L
theorem ics_av (L : List It) : avL (ics L) = true := avL_cellsOfL (fun _ => rfl) L
structure Sp where
  k : Int
  it : It
def Sp.cells (x : Sp) : List Value := [.int .u8 x.k, .int .i64 x.it.stream, .int .i64 x.it.seq, .int .i64 x.it.cls, .int .i64 x.it.size, .int .i64 x.it.sent]
def Sp.v (x : Sp) : Value := .agg ⟨x.cells⟩
abbrev ecs (L : List Sp) : List Value := cellsOfL Sp.cells L
theorem ecs_av (L : List Sp) : avL (ecs L) = true := avL_cellsOfL (fun _ => rfl) L
theorem u58 : Try.prog.underlying 58 = some (.slice 61) := by kernel_rfl
theorem u59 : Try.prog.underlying 59 = some (.slice 26) := by kernel_rfl
theorem z61 : szIs Try.prog 61 6 true = true := by kernel_rfl
theorem z26 : szIs Try.prog 26 5 true = true := by kernel_rfl
theorem ix58 {b n c i : Nat} (h : i < n) : doIndexAddr Try.prog 58 (.slice (some ⟨b, 0, none⟩) n c) (.int .i64 i) = some (.pointer (some ⟨b, 0 + i * 6, none⟩)) := Sl.ix' (.inr rfl) u58 z61 h
theorem ld61 {b i : Nat} {E : List Sp} {x : Sp} {ro : Bool} (h : E[i]? = some x) : doLoad Try.prog [(b, .cells (ecs E) ro)] 61 (.pointer (some ⟨b, 0 + i * 6, none⟩)) = some x.v := ldN z61 rfl (cellsOfL_get (f := Sp.cells) (s := 6) (fun _ => rfl) h)
theorem ix59 {b n c i : Nat} (h : i < n) : doIndexAddr Try.prog 59 (.slice (some ⟨b, 0, none⟩) n c) (.int .i64 i) = some (.pointer (some ⟨b, 0 + i * 5, none⟩)) := Sl.ix' (.inr rfl) u59 z26 h
theorem ld26 {b i : Nat} {L : List It} {x : It} {ro : Bool} (h : L[i]? = some x) : doLoad Try.prog [(b, .cells (ics L) ro)] 26 (.pointer (some ⟨b, 0 + i * 5, none⟩)) = some x.v := ldN z26 rfl (cellsOfL_get (f := It.cells) (s := 5) (fun _ => rfl) h)
def oc5 : Nat := openCap + 5
def isl (b : Nat) (L : List It) : Value := .slice (some ⟨b, 0, none⟩) L.length oc5
theorem b26 : ∃ inf z, Try.prog.info? 26 = some inf ∧ inf.size = 5 ∧ inf.bytes = 40 ∧ inf.zero = some z ∧ z.cells.size = 5 := by
  have hi : (Try.prog.info? 26).map (fun i => (i.size, i.bytes, i.zero.map (·.cells.size))) = some (5, 40, some 5) := by kernel_rfl
  cases he : Try.prog.info? 26 with
  | none => rw [he] at hi; cases hi
  | some inf =>
    rw [he] at hi
    simp only [Option.map_some, Option.some.injEq, Prod.mk.injEq] at hi
    obtain ⟨h1, h2, h3⟩ := hi
    cases hz : inf.zero with
    | none => rw [hz] at h3; cases h3
    | some z => rw [hz] at h3; exact ⟨inf, z, rfl, h1, h2, hz, by simpa using h3⟩
theorem src_it {H : Hp} {b e : Nat} {L : List It} {ro : Bool} (hb : H.get b = some (.cells (ics L) ro)) : srcCells H 5 (.slice (some ⟨b, 0, none⟩) L.length e) = some (L.length, ics L) := by
  by_cases h0 : L.length = 0
  · have : L = [] := List.length_eq_zero_iff.1 h0
    subst this; rfl
  · have hl : (ics L).length = L.length * 5 := cellsOfL_len (f := It.cells) (s := 5) (fun _ => rfl) L
    simp only [srcCells, h0, if_false, hb, Nat.zero_add, List.drop_zero, ← hl, List.take_length, Nat.le_refl, if_true]
theorem oneL_app : ∀ {a b : List Value}, oneL a = true → oneL b = true → oneL (a ++ b) = true
  | [], b, _, hb => hb
  | x :: a, b, ha, hb => by
    simp only [oneL, Bool.and_eq_true] at ha
    simp only [List.cons_append, oneL, ha.1, oneL_app ha.2 hb, Bool.and_self]
theorem oneL_ics : ∀ L : List It, oneL (ics L) = true
  | [] => rfl
  | x :: L => oneL_app (show oneL x.cells = true from rfl) (oneL_ics L)
/-- append(s, x), the capacity of s not known. -/
theorem app_it {a b : Nat} {L : List It} {x : It} (hlen : L.length ≤ 900) :
    Hint.Ok Try.prog (.app [59, 59] 59 [isl a L, .slice (some ⟨b, 0, none⟩) 1 1] [(a, ics L), (b, ics [x])] (some a) (L ++ [x]).length oc5 (ics (L ++ [x]))) := by
  intro H nx hV hrw
  obtain ⟨inf, z, h1, h2, h3, h4, h5⟩ := b26
  obtain ⟨r1, g1⟩ := hV a (ics L) (by simp)
  obtain ⟨r2, g2⟩ := hV b (ics [x]) (by simp)
  have hr1 : r1 = false := by simp only [rwO, g1] at hrw; cases r1 <;> simp at hrw ⊢
  subst hr1
  have e1 := src_it (e := openCap + 5) g1
  have e2 : srcCells H 5 (.slice (some ⟨b, 0, none⟩) 1 1) = some (1, ics [x]) := src_it (e := 1) g2
  have hnc : openCap ≤ openCap + 5 := by omega
  have hml : L.length + 1 ≤ maxLen := by unfold maxLen; omega
  have hby : (L.length + 1) * 40 ≤ 140737488355328 := by omega
  have hlt : ¬ (openCap + 5 < L.length + 1) := by unfold openCap; omega
  have hap : ics L ++ ics [x] = ics (L ++ [x]) := (cellsOfL_append _ _ _).symm
  have hln : L.length + 1 = (L ++ [x]).length := by simp
  have h10 : ¬ ((1 : Nat) = 0) := by omega
  simp only [isl, doBuiltin, if_true, doAppend, oc5, u59, h1, h2, h3, h4, e2, h5, e1, h10, hlt, hml, hby, hnc, if_false, and_self, Nat.zero_lt_succ, delO, Nat.add_sub_cancel_left, imp_self, g1, oneL_ics, hap, ← hln]

/-! ### Push where the queue's capacity is not known -/
theorem slc_nno {off n : Nat} (h0 : 0 < n) (hm : n ≤ 1000) : doSlice Try.prog 22 (.slice (some ⟨0, off, none⟩) n oc7) none (some (.int .i64 n)) (some (.int .i64 n)) = some (.slice (some ⟨0, off, none⟩) n n) := by
  obtain ⟨inf, h1, h2⟩ := i28
  have hb : bnd (.int .i64 n) n = some n := bnd_nat (k := .i64) (h := n) (Nat.le_refl n)
  have ho : ¬ (openCap + 7 < openCap) := by omega
  have ho2 : n < openCap := by unfold openCap; omega
  have hn : ¬ n = 0 := by omega
  simp [doSlice, h1, h2, bnds, lowB, hb, oc7, ho, ho2, hn]
theorem push_yesO {cs : List Value} {off : Nat} {cap : Int} {i : It} (hs : avL cs = true) {l : List Pt} (h0 : 0 < l.length) (hl : l.length ≤ 999) (hh : Holds cs off l) (h1 : checkS cap l = true) (h2 : itemOk i = true) (h3 : overS cap l i = false) :
    Memo.Ok Try.prog ⟨21, 1, [qv cap 0 off l.length oc7, i.v], [(0, cs)], .tuple #[qv cap 8 0 (l.length + 1) oc7, .bool true, .int .i64 0], [(8, pcs l ++ pcs [wholeP i])], 9⟩ := by
  have m1 := check_m (c := oc7) hs (by omega) hh h1 0 4
  have m2 := checkItem_m _ h2 4
  have m3 := octL_m (c := oc7) (cap := cap) hs (by omega) hh 0 5
  have m4 := whole_m i 7
  have a := app_full (a := 0) (b := 7) (ca := l.length) (cb := 1) hh (holds_1 (wholeP i)) (by simp) (by simp) (by simp; omega) (by unfold openCap; omega)
  obtain ⟨x1, x2, x3, x4, x5⟩ := i
  exact memo_new (hs := [(11, .call _), (17, .call _), (25, .call _), (32, .val (.bool (decide (IntKind.i64.wrap (sumW (·.left) l 0 + x4) > cap))) (.bool false)), (45, .slc 22 (.slice (some ⟨0, off, none⟩) l.length oc7) none (some (.int .i64 l.length)) (some (.int .i64 l.length)) _), (47, .call _), (49, .app _ _ _ _ _ _ _ _)]) (ch := []) (evk 50) special
    ⟨m1, m2, m3, congrArg Value.bool h3, slc_nno h0 (by omega), m4, a, trivial⟩ trivial (by kernel_rfl)
theorem push_noB {cs : List Value} {off c : Nat} {cap : Int} {i : It} (hs : avL cs = true) {l : List Pt} (hl : l.length < 9223372036854775807) (hh : Holds cs off l) {p1 p2 p3 : Bool} (h1 : checkS cap l = p1) (h2 : itemOk i = p2) (h3 : overS cap l i = p3) (hno : (p1 && p2 && !p3) = false) (b nx : Nat) :
    Memo.Ok Try.prog ⟨21, nx, [qv cap b off l.length c, i.v], [(b, cs)], pushV p1 p2 p3 (qv cap b off l.length c) (.bool true), [], nx⟩ :=
  memo_blk (push_no (c := c) hs hl hh h1 h2 h3 hno (.bool true)) hs b nx (by cases p1 <;> cases p2 <;> cases p3 <;> kernel_rfl) rfl (by cases p1 <;> cases p2 <;> cases p3 <;> rfl)
theorem push_yesB {cs : List Value} {off : Nat} {cap : Int} {i : It} (hs : avL cs = true) {l : List Pt} (h0 : 0 < l.length) (hl : l.length ≤ 999) (hh : Holds cs off l) (h1 : checkS cap l = true) (h2 : itemOk i = true) (h3 : overS cap l i = false) (b nx : Nat) :
    Memo.Ok Try.prog ⟨21, nx, [qv cap b off l.length oc7, i.v], [(b, cs)], .tuple #[qv cap (nx + 7) 0 (l.length + 1) oc7, .bool true, .int .i64 0], [(nx + 7, pcs l ++ pcs [wholeP i])], nx + 8⟩ :=
  memo_blkN (push_yesO hs h0 hl hh h1 h2 h3) hs (avL_app (avL_pcs _) (avL_pcs _)) b nx (by kernel_rfl) rfl rfl rfl rfl
end Go.Proofs.Ytddhglcmfoopnaa.queue
