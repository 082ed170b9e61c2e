/- Contracts: Push, Return, and the reference's. -/
import Derived.Test.YtddhglcmfoopnaaFnG
namespace Go.Proofs.Ytddhglcmfoopnaa.queue
open Go Go.En
set_option linter.unusedVariables false

/-- The parts' cells. -/
def pcs : List Pt → List Value
  | [] => []
  | p :: l => p.cells ++ pcs l
theorem pcs_len : ∀ l : List Pt, (pcs l).length = l.length * 7
  | [] => rfl
  | p :: l => by simp only [pcs, List.length_append, pcs_len l, List.length_cons]; show 7 + _ = _; omega
theorem pcs_append : ∀ l m : List Pt, pcs (l ++ m) = pcs l ++ pcs m
  | [], m => rfl
  | p :: l, m => by simp only [List.cons_append, pcs, pcs_append l m, List.append_assoc]
theorem avL_cells (p : Pt) : avL p.cells = true := rfl
theorem avL_app {a b : List Value} (ha : avL a = true) (hb : avL b = true) : avL (a ++ b) = true := by
  induction a with
  | nil => simpa using hb
  | cons x a ih => simp only [avL, Bool.and_eq_true, List.cons_append] at ha ⊢; exact ⟨ha.1, ih ha.2⟩
theorem avL_pcs : ∀ l : List Pt, avL (pcs l) = true
  | [] => rfl
  | p :: l => avL_app (avL_cells p) (avL_pcs l)
theorem holds_tl {cs : List Value} {off : Nat} {p : Pt} {l : List Pt} (hh : Holds cs off (p :: l)) : Holds cs (off + 7) l := by
  intro i q hq j v hv
  have := hh (i + 1) q (by simpa using hq) j v hv
  rw [← this]
  congr 1; omega
theorem holds_fit : ∀ {l : List Pt} {cs : List Value} {off : Nat}, Holds cs off l → 0 < l.length → off + l.length * 7 ≤ cs.length
  | [], _, _, _, h => by simp at h
  | [p], cs, off, hh, _ => by
    have := hh 0 p rfl 6 (.bool p.rest) rfl
    have := (List.getElem?_eq_some_iff.1 this).1
    simp; omega
  | p :: q :: l, cs, off, hh, _ => by
    have := holds_fit (holds_tl hh) (by simp)
    simp at this ⊢; omega
theorem take_holds : ∀ {l : List Pt} {cs : List Value} {off : Nat}, Holds cs off l → (cs.drop off).take (l.length * 7) = pcs l
  | [], _, _, _ => by simp [pcs]
  | p :: l, cs, off, hh => by
    have h1 := take_at (n := 7) rfl (hh 0 p rfl)
    have h2 := take_holds (holds_tl hh)
    rw [List.length_cons, Nat.add_mul, Nat.add_comm, List.take_add, List.drop_drop]
    simp only [Nat.zero_mul, Nat.add_zero] at h1
    rw [pcs, ← h2]
    simp only [Nat.one_mul]
    rw [h1]
theorem holds_pcs : ∀ (l : List Pt) (pre suf : List Value), Holds (pre ++ pcs l ++ suf) pre.length l
  | [], _, _ => fun i p hp => by simp at hp
  | q :: l, pre, suf => by
    intro i p hp j v hv
    cases i with
    | zero =>
      simp at hp
      subst hp
      have hj : j < q.cells.length := (List.getElem?_eq_some_iff.1 hv).1
      simp only [Nat.zero_mul, Nat.add_zero, pcs, List.append_assoc]
      rw [List.getElem?_append_right (by omega), Nat.add_sub_cancel_left, List.getElem?_append_left hj]
      exact hv
    | succ i =>
      have h := holds_pcs l (pre ++ q.cells) suf i p (by simpa using hp) j v hv
      have e1 : (pre ++ q.cells).length = pre.length + 7 := by rw [List.length_append]; rfl
      rw [e1] at h
      have e2 : pre ++ pcs (q :: l) ++ suf = pre ++ q.cells ++ pcs l ++ suf := by simp [pcs]
      rw [e2, ← h]
      congr 1; omega
theorem holds_0 (l : List Pt) : Holds (pcs l) 0 l := by
  have := holds_pcs l [] []
  simpa using this

theorem b28 : ∃ inf z, Try.prog.info? 28 = some inf ∧ inf.size = 7 ∧ inf.bytes = 56 ∧ inf.zero = some z ∧ z.cells.size = 7 := by
  have hi : (Try.prog.info? 28).map (fun i => (i.size, i.bytes, i.zero.map (·.cells.size))) = some (7, 56, some 7) := by kernel_rfl
  cases he : Try.prog.info? 28 with
  | none => rw [he] at hi; cases hi
  | some inf =>
    rw [he] at hi
    simp only [Option.map_some, Option.some.injEq, Prod.mk.injEq] at hi
    obtain ⟨h1, h2, h3⟩ := hi
    cases hz : inf.zero with
    | none => rw [hz] at h3; cases h3
    | some z => rw [hz] at h3; exact ⟨inf, z, rfl, h1, h2, hz, by simpa using h3⟩
/-- The cells of a slice, as the parts that it holds. -/
theorem src_0 {H : Hp} {b off c : Nat} {cs : List Value} {ro : Bool} {l : List Pt} (hb : H.get b = some (.cells cs ro)) (hh : Holds cs off l) : srcCells H 7 (.slice (some ⟨b, off, none⟩) l.length c) = some (l.length, pcs l) := by
  by_cases h0 : l.length = 0
  · have : l = [] := List.length_eq_zero_iff.1 h0
    subst this; rfl
  · simp only [srcCells, h0, if_false, hb, holds_fit hh (Nat.pos_of_ne_zero h0), if_true, take_holds hh]
def oc7 : Nat := openCap + 7
/-- append(s, x...) where s has no room. -/
theorem app_full {a b oa ob ca cb : Nat} {cs ds : List Value} {l m : List Pt} (hl : Holds cs oa l) (hm : Holds ds ob m) (h0 : 0 < m.length) (hc : ca < l.length + m.length) (hlen : l.length + m.length ≤ 1000) (hca : ca < openCap) :
    Hint.Ok Try.prog (.app [22, 22] 22 [.slice (some ⟨a, oa, none⟩) l.length ca, .slice (some ⟨b, ob, none⟩) m.length cb] [(a, cs), (b, ds)] none (l.length + m.length) oc7 (pcs l ++ pcs m)) := by
  intro H nx hV _
  obtain ⟨inf, z, h1, h2, h3, h4, h5⟩ := b28
  obtain ⟨r1, g1⟩ := hV a cs (by simp)
  obtain ⟨r2, g2⟩ := hV b ds (by simp)
  have e1 := src_0 (c := ca) g1 hl
  have e2 := src_0 (c := cb) g2 hm
  have hne : ¬ (m.length = 0) := by omega
  have hnc : ¬ (openCap ≤ ca) := by omega
  have hml : l.length + m.length ≤ maxLen := by unfold maxLen; omega
  have hby : (l.length + m.length) * 56 ≤ 140737488355328 := by omega
  simp only [doBuiltin, if_true, doAppend, u22, h1, h2, h3, h4, e2, h5, e1, hne, hc, hml, hby, hnc, if_false, and_self, false_imp_iff, Nat.zero_lt_succ, delO, oc7]
/-- append(nil, x...) -/
theorem app_nil {b ob cb : Nat} {ds : List Value} {m : List Pt} (hm : Holds ds ob m) (h0 : 0 < m.length) (hlen : m.length ≤ 1000) :
    Hint.Ok Try.prog (.app [22, 22] 22 [.slice none 0 0, .slice (some ⟨b, ob, none⟩) m.length cb] [(b, ds)] none m.length oc7 (pcs m)) := by
  intro H nx hV _
  obtain ⟨inf, z, h1, h2, h3, h4, h5⟩ := b28
  obtain ⟨r2, g2⟩ := hV b ds (by simp)
  have e2 := src_0 (c := cb) g2 hm
  have hne : ¬ (m.length = 0) := by omega
  have hml : m.length ≤ maxLen := by unfold maxLen; omega
  have hby : m.length * 56 ≤ 140737488355328 := by omega
  simp only [doBuiltin, if_true, doAppend, u22, h1, h2, h3, h4, e2, h5, hne, hml, hby, if_false, and_self, Nat.zero_lt_succ, delO, oc7]
theorem oneL_pcs : ∀ l : List Pt, oneL (pcs l) = true
  | [] => rfl
  | p :: l => by
    have := oneL_pcs l
    show oneL (p.cells ++ pcs l) = true
    simp only [Pt.cells, List.cons_append, List.nil_append, oneL, this, Value.oneCell', Bool.and_self]
/-- append(s, x...) where s' capacity is not known. -/
theorem app_open {a b oa ob cb : Nat} {cs ds : List Value} {l m : List Pt} (hl : Holds cs oa l) (hm : Holds ds ob m) (h0 : 0 < m.length) (hlen : l.length + m.length ≤ 1000) :
    Hint.Ok Try.prog (.app [22, 22] 22 [.slice (some ⟨a, oa, none⟩) l.length oc7, .slice (some ⟨b, ob, none⟩) m.length cb] [(a, cs), (b, ds)] (some a) (l.length + m.length) oc7 (pcs l ++ pcs m)) := by
  intro H nx hV hrw
  obtain ⟨inf, z, h1, h2, h3, h4, h5⟩ := b28
  obtain ⟨r1, g1⟩ := hV a cs (by simp)
  obtain ⟨r2, g2⟩ := hV b ds (by simp)
  have hr1 : r1 = false := by simp only [rwO, g1] at hrw; cases r1 <;> simp at hrw ⊢
  subst hr1
  have e1 := src_0 (c := openCap + 7) g1 hl
  have e2 := src_0 (c := cb) g2 hm
  have hne : ¬ (m.length = 0) := by omega
  have hnc : openCap ≤ openCap + 7 := by omega
  have hml : l.length + m.length ≤ maxLen := by unfold maxLen; omega
  have hby : (l.length + m.length) * 56 ≤ 140737488355328 := by omega
  have hlt : ¬ (openCap + 7 < l.length + m.length) := by unfold openCap; omega
  simp only [doBuiltin, if_true, doAppend, oc7, u22, h1, h2, h3, h4, e2, h5, e1, hne, hlt, hml, hby, hnc, if_false, and_self, Nat.zero_lt_succ, delO, Nat.add_sub_cancel_left, imp_self, g1, oneL_pcs]
end Go.Proofs.Ytddhglcmfoopnaa.queue
