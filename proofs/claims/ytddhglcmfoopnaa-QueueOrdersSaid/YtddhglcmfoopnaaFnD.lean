/- Contracts: CheckPart. -/
import Derived.Test.YtddhglcmfoopnaaFnC
import Derived.Test.YtddhglcmfoopnaaEnOH
namespace Go.Proofs.Ytddhglcmfoopnaa.queue
open Go Go.En
set_option linter.unusedVariables false

def eqIt (p q : It) : Bool := (p.stream == q.stream) && ((p.seq == q.seq) && ((p.cls == q.cls) && ((p.size == q.size) && ((p.sent == q.sent) && true))))
def eqPt (p q : Pt) : Bool := eqIt p.it q.it && ((p.left == q.left) && ((p.rest == q.rest) && true))
theorem eql_pt (p q : Pt) (xo yo : Operand) : doBin Try.prog .eql 28 xo yo p.v q.v = some (.bool (eqPt p q)) ∧ doBin Try.prog .neq 28 xo yo p.v q.v = some (.bool (!eqPt p q)) :=
  bin_eql (by kernel_rfl) (by kernel_rfl) (by kernel_rfl) (by kernel_rfl) xo yo

def partC (x : Pt) : Bool := itemOk x.it && (eqPt x (wholeP x.it) || (x.rest && !(decide (x.it.cls > 5)) && within x.left 88 (IntKind.i64.wrap (x.it.size - 40))))
theorem checkPart_0 (x : Pt) : Memo.Ok Try.prog ⟨13, 0, [x.v], [], .int .i64 (bif partC x then 0 else 460), [], 0⟩ := by
  obtain ⟨⟨a, b, c, d, e⟩, l, r⟩ := x
  have key : ∀ p1 p2 p3 p4, itemOk ⟨a, b, c, d, e⟩ = p1 → eqPt ⟨⟨a, b, c, d, e⟩, l, r⟩ (wholeP ⟨a, b, c, d, e⟩) = p2 → decide (c > 5) = p3 → within l 88 (IntKind.i64.wrap (d - 40)) = p4 →
      Memo.Ok Try.prog ⟨13, 0, [Pt.v ⟨⟨a, b, c, d, e⟩, l, r⟩], [], .int .i64 (bif p1 && (p2 || (r && !p3 && p4)) then 0 else 460), [], 0⟩ := by
    intro p1 p2 p3 p4 h1 h2 h3 h4
    have m1 := checkItem_m _ h1 1
    have m2 := whole_m ⟨a, b, c, d, e⟩ 1
    have m4 := within_m _ _ _ h4 1
    have e2 := fun xo yo => h2 ▸ (eql_pt ⟨⟨a, b, c, d, e⟩, l, r⟩ (wholeP ⟨a, b, c, d, e⟩) xo yo).1
    cases p1 <;> cases p2 <;> cases p3 <;> cases p4 <;> cases r <;>
      exact memo_pure (hs := [(6, .call _), (13, .call _), (14, .bin .eql 28 _ _ _), (22, .val (.bool (decide (c > 5))) (.bool _)), (31, .call _)]) (ch := []) 1 (evk 50) special
        ⟨m1, m2, e2, congrArg Value.bool h3, m4, trivial⟩ trivial (by kernel_rfl) rfl (by kernel_rfl)
  exact key _ _ _ _ rfl rfl rfl rfl
theorem checkPart_m (x : Pt) {p : Bool} (h : partC x = p) (nx : Nat) : Memo.Ok Try.prog ⟨13, nx, [x.v], [], .int .i64 (bif p then 0 else 460), [], nx⟩ :=
  memo_any (h ▸ checkPart_0 x) nx (by kernel_rfl) rfl rfl
/-! ### Same -/
theorem take_at {cs ds : List Value} {o n : Nat} (hn : ds.length = n) (hp : ∀ (j : Nat) v, ds[j]? = some v → cs[o + j]? = some v) : (cs.drop o).take n = ds := by
  apply List.ext_getElem?
  intro j
  rw [List.getElem?_take]
  by_cases hj : j < n
  · rw [if_pos hj, List.getElem?_drop]
    have hd : ds[j]? = some ds[j] := List.getElem?_eq_getElem (by omega)
    rw [hd, hp j _ hd]
  · rw [if_neg hj, List.getElem?_eq_none (by omega)]
theorem ld28 {b o : Nat} {cs : List Value} {ro : Bool} {p : Pt} (hp : ∀ (j : Nat) v, p.cells[j]? = some v → cs[o + j]? = some v) : doLoad Try.prog [(b, .cells cs ro)] 28 (.pointer (some ⟨b, o, none⟩)) = some p.v := by
  have hu : (Try.prog.underlying 28).map aggD = some true := by kernel_rfl
  have hi : (Try.prog.info? 28).map (·.size) = some 7 := by kernel_rfl
  cases hd : Try.prog.underlying 28 with
  | none => rw [hd] at hu; cases hu
  | some d =>
    rw [hd] at hu
    have hag : aggD d = true := by simpa using hu
    cases he : Try.prog.info? 28 with
    | none => rw [he] at hi; cases hi
    | some inf =>
      rw [he] at hi
      have h7 : inf.size = 7 := by simpa using hi
      have hlen : o + 7 ≤ cs.length := by
        have := hp 6 (.bool p.rest) rfl
        have := (List.getElem?_eq_some_iff.1 this).1
        omega
      simp only [doLoad, Hp.get, beq_self_eq_true, if_true, hd, he, hag, h7, hlen, take_at (n := 7) rfl hp]
      rfl

def T20 (i : Int) : List Value := [J, J, .pointer (some ⟨2, 0, none⟩), .pointer (some ⟨3, 0, none⟩), .bool false, .int .i64 i] ++ List.replicate 32 J
def H20 (ca cb : Int) (oa na ka ob nb kb : Nat) (cs ds : List Value) : Hp := [(3, .cells [.int .i64 cb, .slice (some ⟨1, ob, none⟩) nb kb] true), (2, .cells [.int .i64 ca, .slice (some ⟨0, oa, none⟩) na ka] true), (0, .cells cs true), (1, .cells ds true)]
theorem H20_below {ca cb : Int} {oa na ka ob nb kb : Nat} {cs ds : List Value} (hs : smallL (small 6 5) cs = true) (hd : smallL (small 6 5) ds = true) : hpBelow 6 (H20 ca cb oa na ka ob nb kb cs ds) = true := by
  simp [H20, hpBelow, tidyB, hs, hd, smallL, small]
theorem same_go {ca cb : Int} {oa na ka ob nb kb : Nat} {cs ds : List Value} {i : Nat} {p q : Pt} (ha : i < na) (hb : i < nb) (hp : ∀ (j : Nat) v, p.cells[j]? = some v → cs[oa + i * 7 + j]? = some v) (hq : ∀ (j : Nat) v, q.cells[j]? = some v → ds[ob + i * 7 + j]? = some v)
    (hs : smallL (small 6 5) cs = true) (hd : smallL (small 6 5) ds = true) :
    CodeOk Try.prog none (lp Try.prog 20 4) (T20 i) [] (H20 ca cb oa na ka ob nb kb cs ds) 6
      (bif eqPt p q then ⟨.normal, T20 (IntKind.i64.wrap (i + 1)), [], H20 ca cb oa na ka ob nb kb cs ds, 6⟩ else ⟨.ret, T20 i, [], H20 ca cb oa na ka ob nb kb cs ds, 6⟩) := by
  have key : ∀ e, eqPt p q = e → CodeOk Try.prog none (lp Try.prog 20 4) (T20 i) [] (H20 ca cb oa na ka ob nb kb cs ds) 6
      (bif e then ⟨.normal, T20 (IntKind.i64.wrap (i + 1)), [], H20 ca cb oa na ka ob nb kb cs ds, 6⟩ else ⟨.ret, T20 i, [], H20 ca cb oa na ka ob nb kb cs ds, 6⟩) := by
    intro e he
    have e2 := fun xo yo => he ▸ (eql_pt p q xo yo).2
    cases e <;>
      exact code_at (hs := [(24, .val (.bool (decide ((i : Int) < na))) (.bool true)), (30, .ix 22 (.slice (some ⟨0, oa, none⟩) na ka) (.int .i64 i) _), (31, .ld 28 _ 0 cs true p.v), (35, .ix 22 (.slice (some ⟨1, ob, none⟩) nb kb) (.int .i64 i) _), (36, .ld 28 _ 1 ds true q.v), (37, .bin .neq 28 _ _ _)]) (ch := []) (evk 50) special
        ⟨congrArg Value.bool (decide_eq_true (by omega)), ix22 ha, ⟨ld28 hp, _, rfl⟩, ix22 hb, ⟨ld28 hq, _, rfl⟩, e2, trivial⟩ trivial (by kernel_rfl) (H20_below hs hd) (H20_below hs hd) (by kernel_rfl)
  exact key _ rfl
theorem same_out {ca cb : Int} {oa na ka ob nb kb : Nat} {cs ds : List Value} (hs : smallL (small 6 5) cs = true) (hd : smallL (small 6 5) ds = true) :
    CodeOk Try.prog none (lp Try.prog 20 4) (T20 na) [] (H20 ca cb oa na ka ob nb kb cs ds) 6 ⟨.exit 0, T20 na, [], H20 ca cb oa na ka ob nb kb cs ds, 6⟩ :=
  code_at (hs := [(24, .val (.bool (decide ((na : Int) < na))) (.bool false))]) (ch := []) (evk 50) special
    ⟨congrArg Value.bool (decide_eq_false (by omega)), trivial⟩ trivial (by kernel_rfl) (H20_below hs hd) (H20_below hs hd) (by kernel_rfl)
def eqL : List Pt → List Pt → Bool
  | p :: l, q :: m => eqPt p q && eqL l m
  | _, _ => true
def TJ20 : List Value := [J, J, .pointer (some ⟨2, 0, none⟩), .pointer (some ⟨3, 0, none⟩), .bool false, J] ++ List.replicate 32 J
theorem same_go' {ca cb : Int} {oa na ka ob nb kb : Nat} {cs ds : List Value} {i : Nat} {p q : Pt} (ha : i < na) (hb : i < nb) (hp : ∀ (j : Nat) v, p.cells[j]? = some v → cs[oa + i * 7 + j]? = some v) (hq : ∀ (j : Nat) v, q.cells[j]? = some v → ds[ob + i * 7 + j]? = some v)
    (hs : smallL (small 6 5) cs = true) (hd : smallL (small 6 5) ds = true) (he : eqPt p q = false) :
    CodeOk Try.prog none (lp Try.prog 20 4) (T20 i) [] (H20 ca cb oa na ka ob nb kb cs ds) 6 ⟨.ret, TJ20, [], H20 ca cb oa na ka ob nb kb cs ds, 6⟩ := by
  have e2 := fun xo yo => he ▸ (eql_pt p q xo yo).2
  exact code_at (hs := [(24, .val (.bool (decide ((i : Int) < na))) (.bool true)), (30, .ix 22 (.slice (some ⟨0, oa, none⟩) na ka) (.int .i64 i) _), (31, .ld 28 _ 0 cs true p.v), (35, .ix 22 (.slice (some ⟨1, ob, none⟩) nb kb) (.int .i64 i) _), (36, .ld 28 _ 1 ds true q.v), (37, .bin .neq 28 _ _ _)]) (ch := []) (evk 50) special
        ⟨congrArg Value.bool (decide_eq_true (by omega)), ix22 ha, ⟨ld28 hp, _, rfl⟩, ix22 hb, ⟨ld28 hq, _, rfl⟩, e2, trivial⟩ trivial (by kernel_rfl) (H20_below hs hd) (H20_below hs hd) (by kernel_rfl)
def R20 (H : Hp) (n : Nat) : Bool → Res
  | true => ⟨.exit 0, T20 n, [], H, 6⟩
  | false => ⟨.ret, TJ20, [], H, 6⟩
theorem same_loop {ca cb : Int} {oa ka ob kb : Nat} {cs ds : List Value} (hs : smallL (small 6 5) cs = true) (hd : smallL (small 6 5) ds = true) {l m : List Pt} (hlm : l.length = m.length) (hl : l.length < 9223372036854775807) (hh : Holds cs oa l) (hm : Holds ds ob m) :
    ∀ (k i : Nat), i + k = l.length → LoopOk Try.prog none (lp Try.prog 20 4) (T20 i) [] (H20 ca cb oa l.length ka ob m.length kb cs ds) 6 (R20 (H20 ca cb oa l.length ka ob m.length kb cs ds) l.length (eqL (l.drop i) (m.drop i)))
  | 0, i, hi => by
    have : i = l.length := by omega
    subst this
    rw [List.drop_length]
    exact loopOk_out (same_out hs hd) (by show Exit.exit 0 ≠ Exit.normal; simp)
  | k + 1, i, hi => by
    have hil : i < l.length := by omega
    have him : i < m.length := by omega
    have hp : l[i]? = some l[i] := List.getElem?_eq_getElem hil
    have hq : m[i]? = some m[i] := List.getElem?_eq_getElem him
    rw [List.drop_eq_getElem_cons hil, List.drop_eq_getElem_cons him]
    simp only [eqL]
    cases he : eqPt l[i] m[i] with
    | false => exact loopOk_out (same_go' hil him (hh i _ hp) (hm i _ hq) hs hd he) (by show Exit.ret ≠ Exit.normal; simp)
    | true =>
      have h1 := same_go (ca := ca) (cb := cb) (ka := ka) (kb := kb) hil him (hh i _ hp) (hm i _ hq) hs hd
      rw [he] at h1
      simp only [cond_true, Bool.true_and] at h1 ⊢
      rw [show (i : Int) + 1 = ((i + 1 : Nat) : Int) by push_cast; rfl, wrap_nat (by omega)] at h1
      exact loop_step h1 (same_loop hs hd hlm hl hh hm k (i + 1) (by omega))
termination_by k => k
def sameS (ca cb : Int) (l m : List Pt) : Bool := !(ca != cb) && !((l.length : Int) != (m.length : Int)) && eqL l m
theorem same_0 {ca cb : Int} {oa ka ob kb : Nat} {cs ds : List Value} (hs : avL cs = true) (hd : avL ds = true) {l m : List Pt} (hl : l.length < 9223372036854775807) (hh : Holds cs oa l) (hm : Holds ds ob m) :
    Memo.Ok Try.prog ⟨20, 2, [qv ca 0 oa l.length ka, qv cb 1 ob m.length kb], [(0, cs), (1, ds)], .bool (sameS ca cb l m), [], 2⟩ := by
  unfold sameS
  have hS : smallH 2 [(0, cs), (1, ds)] = true := by simp [smallH, small_avL hs, small_avL hd]
  have key : ∀ p1 p2, (ca != cb) = p1 → ((l.length : Int) != (m.length : Int)) = p2 → Memo.Ok Try.prog ⟨20, 2, [qv ca 0 oa l.length ka, qv cb 1 ob m.length kb], [(0, cs), (1, ds)], .bool (!p1 && !p2 && eqL l m), [], 2⟩ := by
    intro p1 p2 h1 h2
    cases p1 with
    | true => exact memo_pure (hs := [(2, .frz), (3, .frz), (10, .val (.bool (ca != cb)) (.bool _))]) (ch := []) 4 (evk 50) special ⟨trivial, trivial, congrArg Value.bool h1, trivial⟩ trivial (by kernel_rfl) hS (by kernel_rfl)
    | false =>
      cases p2 with
      | true => exact memo_pure (hs := [(2, .frz), (3, .frz), (10, .val (.bool (ca != cb)) (.bool _)), (18, .val (.bool ((l.length : Int) != (m.length : Int))) (.bool _))]) (ch := []) 6 (evk 50) special ⟨trivial, trivial, congrArg Value.bool h1, congrArg Value.bool h2, trivial⟩ trivial (by kernel_rfl) hS (by kernel_rfl)
      | false =>
        have hlm : l.length = m.length := by
          have := h2
          simp only [bne_eq_false_iff_eq] at this
          omega
        have hlo := same_loop (ca := ca) (cb := cb) (ka := ka) (kb := kb) (small_avL hs) (small_avL hd) hlm hl hh hm l.length 0 (by omega)
        rw [List.drop_zero, List.drop_zero] at hlo
        generalize eqL l m = g at hlo ⊢
        cases g <;>
          exact memo_pure (hs := [(2, .frz), (3, .frz), (10, .val (.bool (ca != cb)) (.bool _)), (18, .val (.bool ((l.length : Int) != (m.length : Int))) (.bool _))]) (ch := [⟨4, none, .loop (lp Try.prog 20 4), T20 0, [], H20 ca cb oa l.length ka ob m.length kb cs ds, 6, _, false⟩]) 6 (evk 50) special
            ⟨trivial, trivial, congrArg Value.bool h1, congrArg Value.bool h2, trivial⟩ ⟨codeOk_loop hlo, trivial⟩ (by kernel_rfl) hS (by kernel_rfl)
  exact key _ _ rfl rfl
end Go.Proofs.Ytddhglcmfoopnaa.queue
