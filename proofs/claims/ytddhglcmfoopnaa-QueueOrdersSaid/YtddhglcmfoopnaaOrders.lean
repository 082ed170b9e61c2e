/- QueueOrders returns true for every capacity and steps, and its arguments read as before. No condition. -/
import Derived.Test.YtddhglcmfoopnaaFnW
import Derived.WalkKit
import Derived.ProofKit
import Derived.HandedShaped
namespace Go.Proofs.Ytddhglcmfoopnaa.queue
open Go Go.En Go.ChangeShapes Go.WideShapes Go.RowKit
set_option linter.unusedVariables false

theorem eql_it (p q : It) (xo yo : Operand) : doBin Try.prog .eql 26 xo yo p.v q.v = some (.bool (eqIt p q)) ∧ doBin Try.prog .neq 26 xo yo p.v q.v = some (.bool (!eqIt p q)) :=
  bin_eql (by kernel_rfl) (by kernel_rfl) (by kernel_rfl) (by kernel_rfl) xo yo
theorem eqIt_refl (p : It) : eqIt p p = true := by simp [eqIt]
section
variable {cap : Int} {E : List Sp}
def T32 (a p : Value) (n i : Int) : List Value := [J, J, J, J, .bool false, pt 1, J, a, p] ++ List.replicate 119 J ++ [p, .int .i64 n, .int .i64 i] ++ List.replicate 25 J
theorem G2_below {cs : List Value} {off n : Nat} {A P : List It} (h : avL cs = true) : hpBelow 23 (G2 cap E cs off n A P 5 6 7) = true := by
  have a0 : tidyB 23 (.cells (ecs E) true) = true := small_avL (ecs_av E)
  have a1 : tidyB 23 (.cells cs false) = true := small_avL h
  have a2 : tidyB 23 (.cells (ics A) false) = true := small_avL (ics_av _)
  have a3 : tidyB 23 (.cells (ics P) false) = true := small_avL (ics_av P)
  simp only [G2, B8, hpBelow, a0, a1, a2, a3]; rfl
theorem c_go {cs : List Value} {off n i : Nat} {A P : List It} {x : It} (h : avL cs = true) (hA : A[i]? = some x) (hP : P[i]? = some x) :
    CodeOk Try.prog none (lp Try.prog 6 32) (T32 (isl 6 A) (isl 7 P) P.length i) [] (G2 cap E cs off n A P 5 6 7) 23 ⟨.normal, T32 (isl 6 A) (isl 7 P) P.length (IntKind.i64.wrap (i + 1)), [], G2 cap E cs off n A P 5 6 7, 23⟩ := by
  have h1 := (List.getElem?_eq_some_iff.1 hA).1
  have h2 := (List.getElem?_eq_some_iff.1 hP).1
  have hd : decide ((i : Int) < P.length) = true := decide_eq_true (by omega)
  have e := fun xo yo => (eql_it x x xo yo).2
  rw [eqIt_refl] at e
  have l1 := ld26 (b := 7) (ro := false) hP
  have l2 := ld26 (b := 6) (ro := true) hA
  obtain ⟨x1, x2, x3, x4, x5⟩ := x
  exact code_at (hs := [(131, .val (.bool (decide ((i : Int) < P.length))) (.bool true)), (133, .ix 59 (isl 7 P) (.int .i64 i) _), (134, .ld 26 _ 7 (ics P) false _), (138, .ix 59 (isl 6 A) (.int .i64 i) _), (139, .ld 26 _ 6 (ics A) true _), (140, .bin .neq 26 _ _ _)]) (ch := []) (evk 50) special
    ⟨congrArg Value.bool hd, ix59 h2, ⟨l1, _, rfl⟩, ix59 h1, ⟨l2, _, rfl⟩, e, trivial⟩ trivial (by kernel_rfl) (G2_below h) (G2_below h) (by kernel_rfl)
def TZ (a p : Value) : List Value := [J, J, J, J, .bool false, pt 1, J, a, p] ++ List.replicate 147 J
theorem c_out {cs : List Value} {off n : Nat} {A P : List It} (h : avL cs = true) :
    CodeOk Try.prog none (lp Try.prog 6 32) (T32 (isl 6 A) (isl 7 P) P.length P.length) [] (G2 cap E cs off n A P 5 6 7) 23 ⟨.exit 2, TZ (isl 6 A) (isl 7 P), [], G2 cap E cs off n A P 5 6 7, 23⟩ := by
  have hd : decide ((P.length : Int) < P.length) = false := decide_eq_false (by omega)
  exact code_at (hs := [(131, .val (.bool (decide ((P.length : Int) < P.length))) (.bool false))]) (ch := []) (evk 50) special ⟨congrArg Value.bool hd, trivial⟩ trivial (by kernel_rfl) (G2_below h) (G2_below h) (by kernel_rfl)
theorem c_loop {cs : List Value} {off n : Nat} {ws P : List It} (h : avL cs = true) (hP : P.length ≤ 1000) : ∀ (k i : Nat), i + k = P.length →
    LoopOk Try.prog none (lp Try.prog 6 32) (T32 (isl 6 (P ++ ws)) (isl 7 P) P.length i) [] (G2 cap E cs off n (P ++ ws) P 5 6 7) 23 ⟨.exit 2, TZ (isl 6 (P ++ ws)) (isl 7 P), [], G2 cap E cs off n (P ++ ws) P 5 6 7, 23⟩
  | 0, i, hk => by
    have : i = P.length := by omega
    subst this
    exact loopOk_out (c_out h) (by show Exit.exit 2 ≠ Exit.normal; simp)
  | k + 1, i, hk => by
    have hlt : i < P.length := by omega
    have h2 : P[i]? = some P[i] := List.getElem?_eq_getElem hlt
    have h1 := c_go (cap := cap) (E := E) (off := off) (n := n) (A := P ++ ws) h (by rw [List.getElem?_append_left hlt]; exact h2) h2
    rw [show (i : Int) + 1 = ((i + 1 : Nat) : Int) by push_cast; rfl, wrap_nat (by omega)] at h1
    exact loop_step h1 (c_loop h hP k (i + 1) (by omega))
termination_by k => k
theorem slc_e {n c m : Nat} (hm : m ≤ c) (hc : c < openCap) : doSlice Try.prog 58 (esl n c) none (some (.int .i64 m)) none = some (esl m c) := by
  have hi : (Try.prog.info? 61).isSome = true := by kernel_rfl
  obtain ⟨inf, hi⟩ := Option.isSome_iff_exists.1 hi
  simp [esl, doSlice, hi, hc, bnds, highB, lowB, bnd_nat hm]
theorem new_ok {cap : Int} (h : 0 ≤ cap ∧ cap ≤ 65535) : within cap 0 65536 = true := by
  simp only [within, Bool.and_eq_true, decide_eq_true_eq]; omega
theorem check_e {cap : Int} (h : 0 ≤ cap ∧ cap ≤ 65535) : checkS cap [] = true := by
  unfold checkS
  rw [new_ok h]
  have : decide (sumW freshL [] 0 > cap) = false := decide_eq_false (by simp [sumW]; omega)
  rw [this]; rfl
theorem min_40 (n : Nat) : (if (40 : Int) < n then 40 else (n : Int)) = ((min n 40 : Nat) : Int) := by
  split <;> omega
theorem orders_s {c : Nat} (hc : 0 ≤ cap ∧ cap ≤ 65535) (hle : E.length ≤ c) (hlt : c < openCap) : Memo.Ok Try.prog ⟨6, 1, [.int .u16 cap, esl E.length c], [(0, ecs E)], .bool true, [], 1⟩ := by
  have hS : En.smallH 1 [(0, ecs E)] = true := by simp [En.smallH, small_avL (ecs_av E)]
  have mn := new_m (new_ok hc) 1
  have hmin := min_40 E.length
  have hsl := slc_e (n := E.length) (c := c) (m := min E.length 40) (by omega) hlt
  obtain ⟨s, hinv, hlo⟩ := st_loop (c := c) (n := min E.length 40) (E := E) hc (by omega) (by omega) (min E.length 40) 0 .z (by omega) (check_e hc)
  have hlo := loopOk_of_L hlo
  generalize min E.length 40 = m at hmin hsl hinv hlo
  cases s with
  | z =>
    have mk := check_nm (check_e hc) 23
    exact memo_pure (hs := [(21, .call _), (25, .val (.int .i64 (IntKind.i64.wrap cap)) (.int .i64 cap)), (26, .call _), (34, .val (.int .i64 (if (40 : Int) < E.length then 40 else (E.length : Int))) (.int .i64 m)), (35, .slc 58 (esl E.length c) none (some (.int .i64 m)) none _), (143, .call _)]) (ch := [⟨8, none, .loop (lp Try.prog 6 8), T8 cap nl nl (esl m c) m 0, [], B8 cap E nl, 5, _, true⟩]) 26 (evk 50) special
      ⟨wakes_m 1, congrArg (Value.int .i64) (conv_id hc), mn, congrArg (Value.int .i64) hmin, hsl, mk, trivial⟩ ⟨codeOk_loop hlo, trivial⟩ (by kernel_rfl) hS (by kernel_rfl)
  | one cs off ws =>
    obtain ⟨hs, hh, ck, h0, hw⟩ := hinv
    have hm : ws.length ≤ 1000 := by omega
    have mk := check_m (c := oc7) hs (by rw [wl_len]; omega) hh ck 5 23
    rw [wl_len] at mk
    have h1 : decide ((0 : Int) > ws.length) = false := decide_eq_false (by omega)
    have h2 : ((ws.length : Int) == IntKind.i64.wrap ((ws.length : Int) - 0)) = true := by
      rw [Int.sub_zero, wrap_nat (by omega)]; exact beq_self_eq_true _
    exact memo_pure (hs := [(21, .call _), (25, .val (.int .i64 (IntKind.i64.wrap cap)) (.int .i64 cap)), (26, .call _), (34, .val (.int .i64 (if (40 : Int) < E.length then 40 else (E.length : Int))) (.int .i64 m)), (35, .slc 58 (esl E.length c) none (some (.int .i64 m)) none _), (127, .val (.bool (decide ((0 : Int) > ws.length))) (.bool false)), (143, .call _), (154, .val (.bool ((ws.length : Int) == IntKind.i64.wrap ((ws.length : Int) - 0))) (.bool true))]) (ch := [⟨8, none, .loop (lp Try.prog 6 8), T8 cap nl nl (esl m c) m 0, [], B8 cap E nl, 5, _, true⟩]) 26 (evk 50) special
      ⟨wakes_m 1, congrArg (Value.int .i64) (conv_id hc), mn, congrArg (Value.int .i64) hmin, hsl, congrArg Value.bool h1, mk, congrArg Value.bool h2, trivial⟩ ⟨codeOk_loop hlo, trivial⟩ (by kernel_rfl) hS (by kernel_rfl)
  | two cs off ws P =>
    obtain ⟨hs, hh, ck, hw⟩ := hinv
    have hw2 : P.length + ws.length ≤ m := by simpa using hw
    have mk := check_m (c := oc7) hs (by rw [wl_len]; omega) hh ck 5 23
    rw [wl_len] at mk
    have hl2 := c_loop (cap := cap) (E := E) (off := off) (n := ws.length) (ws := ws) hs (P := P) (by omega) P.length 0 (by omega)
    have h1 : decide ((P.length : Int) > (P ++ ws).length) = false := decide_eq_false (by simp; omega)
    have h2 : ((ws.length : Int) == IntKind.i64.wrap (((P ++ ws).length : Int) - P.length)) = true := by
      rw [show ((P ++ ws).length : Int) - P.length = (ws.length : Nat) by simp; omega, wrap_nat (by omega)]; exact beq_self_eq_true _
    exact memo_pure (hs := [(21, .call _), (25, .val (.int .i64 (IntKind.i64.wrap cap)) (.int .i64 cap)), (26, .call _), (34, .val (.int .i64 (if (40 : Int) < E.length then 40 else (E.length : Int))) (.int .i64 m)), (35, .slc 58 (esl E.length c) none (some (.int .i64 m)) none _), (127, .val (.bool (decide ((P.length : Int) > (P ++ ws).length))) (.bool false)), (143, .call _), (154, .val (.bool ((ws.length : Int) == IntKind.i64.wrap (((P ++ ws).length : Int) - P.length))) (.bool true))]) (ch := [⟨8, none, .loop (lp Try.prog 6 8), T8 cap nl nl (esl m c) m 0, [], B8 cap E nl, 5, _, true⟩, ⟨32, none, .loop (lp Try.prog 6 32), T32 (isl 6 (P ++ ws)) (isl 7 P) P.length 0, [], G2 cap E cs off ws.length (P ++ ws) P 5 6 7, 23, _, true⟩]) 26 (evk 50) special
      ⟨wakes_m 1, congrArg (Value.int .i64) (conv_id hc), mn, congrArg (Value.int .i64) hmin, hsl, congrArg Value.bool h1, mk, congrArg Value.bool h2, trivial⟩ ⟨codeOk_loop hlo, codeOk_loop hl2, trivial⟩ (by kernel_rfl) hS (by kernel_rfl)
theorem orders_n (hc : 0 ≤ cap ∧ cap ≤ 65535) : Memo.Ok Try.prog ⟨6, 1, [.int .u16 cap, .slice none 0 0], [(0, ecs [])], .bool true, [], 1⟩ := by
  have mn := new_m (new_ok hc) 1
  have mk := check_nm (check_e hc) 23
  have mk := check_nm (check_e hc) 8
  exact memo_pure (hs := [(21, .call _), (25, .val (.int .i64 (IntKind.i64.wrap cap)) (.int .i64 cap)), (26, .call _), (143, .call _)]) (ch := []) 11 (evk 50) special
      ⟨wakes_m 1, congrArg (Value.int .i64) (conv_id hc), mn, mk, trivial⟩ trivial (by kernel_rfl) rfl (by kernel_rfl)
end
theorem leaves6 {row : List Value} (h : LeafL [.i .u8, .i .i64, .i .i64, .i .i64, .i .i64, .i .i64] row) : ∃ p : Sp, row = p.cells := by
  obtain ⟨a, r1, rfl, _, h1⟩ := h.int
  obtain ⟨p, rfl⟩ := leaves5 h1
  exact ⟨⟨a, p⟩, rfl⟩
theorem first_block {w : World} (hw : w.ShapedOpen Try.prog) : CellsAt w 0 := by
  have hg : Try.prog.globals.size = 0 := by kernel_rfl
  refine cells_0 hw hg ?_
  have h : (match (begin Try.prog (fun _ _ => 0) default).world.heap[0]? with | some (.cells _ _ _) => true | _ => false) = true := by kernel_rfl
  cases he : (begin Try.prog (fun _ _ => 0) default).world.heap[0]? with
  | none => rw [he] at h; cases h
  | some o =>
    rw [he] at h
    cases o with
    | cells a b c => exact ⟨a, b, c, rfl⟩
    | _ => cases h
set_option maxRecDepth 100000 in
theorem calls_o {T : Type} {enc : TypeId × Value → T} {w : World} {base : Nat} {spare : Nat → Bool} {held : Bool} {r : Reach} {b0 : Nat} {u : Value} {d : DataW T} {ps : List MemPlace} {cap : Int} (hc : 0 ≤ cap ∧ cap ≤ 65535) (h0 : CellsAt w 0)
    (hv : Value.okWide Try.prog w r b0 58 u) (hd : DataW.Trod enc Try.prog w base spare held 58 u d ps) :
    Calls Try.prog 6 [.int .u16 cap, u].toArray w fun e w' => e = .returned (.bool true) ∧ Below w.heap.size w w' := by
  have hv3 : Cell.okWide Try.prog w r b0 58 u := by simpa only [Value.okWide, u58] using hv
  obtain ⟨fuel, hf⟩ := hd
  have hcell : u.cells.toList = [u] := by
    cases u <;> first | rfl | (simp only [Cell.okWide, u58, Cell.ok] at hv3)
  rw [hcell] at hf
  obtain ⟨E, sk, e, L, hK⟩ := open_at (P := Try.prog) (f := Sp.cells) (n := 5) u58 hv3 hf (ls := [.i .u8, .i .i64, .i .i64, .i .i64, .i .i64, .i .i64]) (by kernel_rfl) (s := 6) (by kernel_rfl) (fun _ => rfl) (fun _ => leaves6) h0 0
  have hm : Memo.Ok Try.prog ⟨6, 1, [.int .u16 cap, .slice sk E.length e], [(0, ecs E)], .bool true, [], 1⟩ := by
    rcases hK.val with ⟨rfl, _, h0, rfl⟩ | ⟨rfl, _⟩
    · have : E = [] := List.length_eq_zero_iff.1 h0
      subst this
      exact orders_n hc
    · exact orders_s hc hK.le hK.lt
  refine calls_open (φ := renL [L]) hm (good_V fun b cs hb => ?_) ⟨.int _ _, hK.rel rfl, trivial⟩
  by_cases h0 : 0 = b
  · subst h0
    simp [roHp, Hp.get] at hb
    subst hb
    exact ⟨L, rfl, hK.brel (ecs_av _)⟩
  · simp [roHp, Hp.get, h0] at hb
end Go.Proofs.Ytddhglcmfoopnaa.queue
namespace Go.Proofs.Ytddhglcmfoopnaa.queueOrders
open Go Go.En Go.ChangeShapes Go.WideShapes Go.ChangeAt Go.RowKit
set_option linter.unusedVariables false
theorem own : ownKnob Try.prog.godebug = none := by kernel_rfl
set_option maxRecDepth 100000 in
theorem lifted (os : Os) (started : os.Started) (H : Type) (enc : TypeId × Value → H) :
    ReturnsInHanded {} Try.checked os 6 .any (Rows.queueOrdersSpec.pre6 enc Try.prog Try.f6 Rows.queueOrdersRow.domain false) (Rows.queueOrdersSpec.post enc Try.prog Try.f6 false true false false) := by
  refine returnsInHanded_of_change_shaped (C := Try.checked) own started (by kernel_rfl) Try.func6
    (ChangeSpec.witness6 (enc := enc) (C := Try.checked) false ⟨#[], #[.int .u16 0, .slice none 0 0], []⟩ 8 (by kernel_rfl) (by kernel_rfl) (by kernel_rfl) (by kernel_rfl)) ?_
  intro W base args ds gs before hval0 hW hcnd _ hsh _
  have hval : ∀ (j : Nat) t v, Try.f6.params[j]? = some t → args[j]? = some v → Value.okWide Try.prog W .any base t v := hval0
  have hW2 := hW
  obtain ⟨p, q, hA0, hV, rfl, hfz, hnd⟩ := hW2
  have hA : DataW.TrodAll enc Try.prog W 0 (fun _ => true) true Try.f6.params.toList args.toList ds p := hA0
  rw [Try.params6] at hA hval
  obtain ⟨v0, v1, d0, d1, p0, p1, rfl, rfl, rfl, h0, h1⟩ := trodAll_two hA
  obtain ⟨x, rfl, _, _, hx⟩ := open_int (k := .u16) (by kernel_rfl) (hval 0 57 v0 rfl rfl) h0
  obtain ⟨rfl, rfl⟩ := trodVars_none hV
  have hx2 : 0 ≤ x ∧ x ≤ 65535 := by
    simp only [Lit.wf, Bool.and_eq_true, decide_eq_true_eq] at hx
    exact hx
  have hwalk := queue.calls_o (cap := x) hx2 (queue.first_block hsh) (hval 1 58 v1 rfl rfl) h1
  refine hwalk.mono fun e W' ⟨he, hb⟩ => ?_
  subst he
  exact ⟨_, rfl, law_post rfl (by kernel_rfl) (by kernel_rfl) rfl Try.underlying4 hW rfl rfl rfl hb⟩
theorem over : Rows.queueOrdersRow.holds Try.pinned (OpenSpec.ofChange Rows.queueOrdersSpec) :=
  OpenClaim.holds_of_wide 6 Try.f6 rfl rfl rfl rfl rfl rfl rfl ⟨rfl, rfl, rfl, rfl, rfl⟩ rfl rfl rfl rfl rfl (by kernel_rfl) Try.func6 (by kernel_rfl)
    (of_decide_eq_true (by kernel_rfl)) (by unfold Func.isWrapper; first | (rw [if_pos (by decide +kernel)]; kernel_rfl) | (rw [if_neg (by decide +kernel)]; exact ⟨rfl, rfl⟩))
    (fun os started H enc _ => lifted os started H enc)
theorem proved : Rows.QueueOrdersSaid := over
#print axioms proved
end Go.Proofs.Ytddhglcmfoopnaa.queueOrders
