/- PortNews returns true for every line and capacities, and its arguments read as before. No condition. -/
import Derived.Test.YtfpbgiaiifcnlaaPb2
namespace Go.Proofs.Ytfpbgiaiifcnlaa.choose
open Go Go.En
set_option linter.unusedVariables false

theorem eight : ∀ {C : List Int}, C.length = 8 → ∃ c0 c1 c2 c3 c4 c5 c6 c7, C = [c0, c1, c2, c3, c4, c5, c6, c7]
  | [c0, c1, c2, c3, c4, c5, c6, c7], _ => ⟨c0, c1, c2, c3, c4, c5, c6, c7, rfl⟩
theorem badG_true : ∀ C : List Int, badG C true = true
  | [] => rfl
  | x :: r => by simp only [badG, Bool.true_or]; exact badG_true r
theorem bad_cap (x : Int) : badC x = !capOk x := by
  unfold badC capOk within
  rw [Bool.eq_iff_iff]
  simp only [Bool.or_eq_true, decide_eq_true_eq, Bool.not_eq_true', Bool.and_eq_false_iff, decide_eq_false_iff_not]
  omega
theorem badG_fbad : ∀ (C : List Int) (i : Nat), badG C false = (fbad C i).isSome
  | [], i => rfl
  | x :: r, i => by
    simp only [badG, fbad, Bool.false_or, bad_cap]
    cases hx : capOk x with
    | true => exact badG_fbad r (i + 1)
    | false => exact badG_true r
theorem fbad_none : ∀ {C : List Int} {i : Nat}, fbad C i = none → ∀ x ∈ C, capOk x = true
  | [], i, _, x, h => by cases h
  | y :: r, i, h, x, hx => by
    simp only [fbad] at h
    cases hy : capOk y with
    | false => rw [hy] at h; cases h
    | true =>
      rw [hy] at h
      rcases List.mem_cons.1 hx with rfl | hx
      · exact hy
      · exact fbad_none h x hx

theorem new_m {es : List Ent} {c d : Nat} {cyc per sh : Int} (hn : es.length ≤ 1000) (hl : lineS (chkG es cyc) per sh = true) (c0 c1 c2 c3 c4 c5 c6 c7 : Int) {g : Option Nat} (hg : fbad [c0, c1, c2, c3, c4, c5, c6, c7] 0 = g) :
    Memo.Ok Try.prog ⟨8, 9, [lv es.length c cyc per sh, .slice (some ⟨8, 0, none⟩) 8 d], [(0, ecs es), (8, ic [c0, c1, c2, c3, c4, c5, c6, c7])], newV 12 es.length c cyc per sh g, newB 12 [c0, c1, c2, c3, c4, c5, c6, c7] g, 14⟩ := by
  have h := new_0 (c := c) (d := d) hn hl c0 c1 c2 c3 c4 c5 c6 c7 hg
  have hS : En.smallH 2 [(0, ecs es), (1, ic [c0, c1, c2, c3, c4, c5, c6, c7])] = true := by simp [En.smallH, small_avL (ecs_av es), small_avL (ic_av _)]
  have hV : ∀ (x : Nat) (us : List Value), (roHp [(0, ecs es), (1, ic [c0, c1, c2, c3, c4, c5, c6, c7])]).get x = some (.cells us true) → (roHp [(0, ecs es), (8, ic [c0, c1, c2, c3, c4, c5, c6, c7])]).get (ρ1 8 x) = some (.cells (us.map (renV (shift (ρ1 8) 2 9) 5)) true) := fun x us hx => by
    by_cases h0 : 0 = x
    · subst h0
      simp [roHp, Hp.get, ρ1] at hx ⊢
      subst hx
      exact (renV_avL (ecs_av es)).symm
    · by_cases h1 : 1 = x
      · subst h1
        simp [roHp, Hp.get, ρ1] at hx ⊢
        subst hx
        exact (renV_avL (ic_av _)).symm
      · simp [roHp, Hp.get, h0, h1] at hx
  cases g with
  | none => exact memo_ren h (ρ1 8) 9 [(0, ecs es), (8, ic [c0, c1, c2, c3, c4, c5, c6, c7])] (by kernel_rfl) hS (by kernel_rfl) hV
  | some i => exact memo_ren h (ρ1 8) 9 [(0, ecs es), (8, ic [c0, c1, c2, c3, c4, c5, c6, c7])] (by kernel_rfl) hS (by kernel_rfl) hV
theorem news_Y (sa : Option Addr) (n c : Nat) (cyc per sh : Int) (es : List Ent) (sb : Option Addr) (m k : Nat) (C : List Int) (ha : Sl 0 n sa) (hn : n ≤ c) (hc : c < openCap) (hE : es.length = min n 129)
    (hb : Sl 1 m sb) (hm : m ≤ k) (hk : k < openCap) (hC : C.length = min m 12) :
    Memo.Ok Try.prog ⟨3, 2, [lvS sa n c cyc per sh, .slice sb m k], [(0, ecs es), (1, ic C)], .bool true, [], 2⟩ := by
  have hS : En.smallH 2 [(0, ecs es), (1, ic C)] = true := by simp [En.smallH, small_avL (ecs_av es), small_avL (ic_av C)]
  have h1 := slc_hi (t := 22) (m := es.length) u22 (by kernel_rfl) ha (by omega) hc
  have h2 := slc_hi (t := 27) (m := C.length) u27i (by kernel_rfl) hb (by omega) hk
  have e1 : (if (129 : Int) < n then 129 else (n : Int)) = (es.length : Nat) := by split <;> omega
  have e2 : (if (12 : Int) < m then 12 else (m : Int)) = (C.length : Nat) := by split <;> omega
  have hn1 : es.length ≤ 1000 := by omega
  by_cases h0 : m = 0
  · subst h0
    obtain rfl : C = [] := List.length_eq_zero_iff.1 (by simpa using hC)
    rcases ha with ⟨rfl, rfl⟩ | rfl
    · obtain rfl : es = [] := List.length_eq_zero_iff.1 (by simpa using hE)
      have mn := newN c 0 0 cyc per sh 5 9
      have mr := rlineN c cyc per sh 10
      have mf := failed_m (e := 471) (.inl rfl) 10
      rcases hb with ⟨rfl, _⟩ | rfl
      · exact memo_pure (hs := [(12, .call _), (21, .val (.int .i64 (if (129 : Int) < (0 : Nat) then 129 else ((0 : Nat) : Int))) (.int .i64 (([] : List Ent).length : Nat))), (22, .slc 22 _ none _ none _), (29, .val (.int .i64 (if (12 : Int) < (0 : Nat) then 12 else ((0 : Nat) : Int))) (.int .i64 (([] : List Int).length : Nat))), (30, .slc 27 _ none _ none _), (35, .call _), (39, .call _), (43, .call _)]) (ch := []) 10 (evk 50) special ⟨wakes_m 3, congrArg (Value.int .i64) e1, h1, congrArg (Value.int .i64) e2, h2, mn, mr, mf, trivial⟩ trivial (by kernel_rfl) hS (by kernel_rfl)
      · exact memo_pure (hs := [(12, .call _), (21, .val (.int .i64 (if (129 : Int) < (0 : Nat) then 129 else ((0 : Nat) : Int))) (.int .i64 (([] : List Ent).length : Nat))), (22, .slc 22 _ none _ none _), (29, .val (.int .i64 (if (12 : Int) < (0 : Nat) then 12 else ((0 : Nat) : Int))) (.int .i64 (([] : List Int).length : Nat))), (30, .slc 27 _ none _ none _), (35, .call _), (39, .call _), (43, .call _)]) (ch := []) 10 (evk 50) special ⟨wakes_m 3, congrArg (Value.int .i64) e1, h1, congrArg (Value.int .i64) e2, h2, mn, mr, mf, trivial⟩ trivial (by kernel_rfl) hS (by kernel_rfl)
    · cases pL : lineS (chkG es cyc) per sh with
      | false =>
        have mn := newE_m (c := c) 0 0 hn1 pL 5 9
        have mr := rline_m (c := c) hn1 pL 10
        have mf := failed_m (e := 471) (.inl rfl) 10
        rcases hb with ⟨rfl, _⟩ | rfl
        · exact memo_pure (hs := [(12, .call _), (21, .val (.int .i64 (if (129 : Int) < n then 129 else (n : Int))) (.int .i64 (es.length : Nat))), (22, .slc 22 _ none _ none _), (29, .val (.int .i64 (if (12 : Int) < (0 : Nat) then 12 else ((0 : Nat) : Int))) (.int .i64 (([] : List Int).length : Nat))), (30, .slc 27 _ none _ none _), (35, .call _), (39, .call _), (43, .call _)]) (ch := []) 10 (evk 50) special ⟨wakes_m 3, congrArg (Value.int .i64) e1, h1, congrArg (Value.int .i64) e2, h2, mn, mr, mf, trivial⟩ trivial (by kernel_rfl) hS (by kernel_rfl)
        · exact memo_pure (hs := [(12, .call _), (21, .val (.int .i64 (if (129 : Int) < n then 129 else (n : Int))) (.int .i64 (es.length : Nat))), (22, .slc 22 _ none _ none _), (29, .val (.int .i64 (if (12 : Int) < (0 : Nat) then 12 else ((0 : Nat) : Int))) (.int .i64 (([] : List Int).length : Nat))), (30, .slc 27 _ none _ none _), (35, .call _), (39, .call _), (43, .call _)]) (ch := []) 10 (evk 50) special ⟨wakes_m 3, congrArg (Value.int .i64) e1, h1, congrArg (Value.int .i64) e2, h2, mn, mr, mf, trivial⟩ trivial (by kernel_rfl) hS (by kernel_rfl)
      | true =>
        have mn := newL_m (c := c) (m := 0) (d := 0) hn1 pL rfl 5 9
        have mr := rline_m (c := c) hn1 pL 10
        have mf := failed_m (e := 2) (.inr rfl) 13
        rcases hb with ⟨rfl, _⟩ | rfl
        · exact memo_pure (hs := [(12, .call _), (21, .val (.int .i64 (if (129 : Int) < n then 129 else (n : Int))) (.int .i64 (es.length : Nat))), (22, .slc 22 _ none _ none _), (29, .val (.int .i64 (if (12 : Int) < (0 : Nat) then 12 else ((0 : Nat) : Int))) (.int .i64 (([] : List Int).length : Nat))), (30, .slc 27 _ none _ none _), (35, .call _), (39, .call _), (75, .call _)]) (ch := []) 13 (evk 50) special ⟨wakes_m 3, congrArg (Value.int .i64) e1, h1, congrArg (Value.int .i64) e2, h2, mn, mr, mf, trivial⟩ trivial (by kernel_rfl) hS (by kernel_rfl)
        · exact memo_pure (hs := [(12, .call _), (21, .val (.int .i64 (if (129 : Int) < n then 129 else (n : Int))) (.int .i64 (es.length : Nat))), (22, .slc 22 _ none _ none _), (29, .val (.int .i64 (if (12 : Int) < (0 : Nat) then 12 else ((0 : Nat) : Int))) (.int .i64 (([] : List Int).length : Nat))), (30, .slc 27 _ none _ none _), (35, .call _), (39, .call _), (75, .call _)]) (ch := []) 13 (evk 50) special ⟨wakes_m 3, congrArg (Value.int .i64) e1, h1, congrArg (Value.int .i64) e2, h2, mn, mr, mf, trivial⟩ trivial (by kernel_rfl) hS (by kernel_rfl)
  · have hsb : sb = some ⟨1, 0, none⟩ := by
      rcases hb with ⟨_, h⟩ | h
      · omega
      · exact h
    subst hsb
    have ap := app_c (a := 5) (b := 1) (e := k) (l := C) (by omega) (by omega)
    rcases ha with ⟨rfl, rfl⟩ | rfl
    · obtain rfl : es = [] := List.length_eq_zero_iff.1 (by simpa using hE)
      have mn := newN c C.length oc1 cyc per sh 8 9
      have mr := rlineN c cyc per sh 10
      have mf := failed_m (e := 471) (.inl rfl) 10
      exact memo_pure (hs := [(12, .call _), (21, .val (.int .i64 (if (129 : Int) < (0 : Nat) then 129 else ((0 : Nat) : Int))) (.int .i64 (([] : List Ent).length : Nat))), (22, .slc 22 _ none _ none _), (29, .val (.int .i64 (if (12 : Int) < m then 12 else (m : Int))) (.int .i64 (C.length : Nat))), (30, .slc 27 _ none _ none _), (31, .app _ _ _ _ _ _ _ _), (35, .call _), (39, .call _), (43, .call _)]) (ch := []) 10 (evk 50) special ⟨wakes_m 3, congrArg (Value.int .i64) e1, h1, congrArg (Value.int .i64) e2, h2, ap, mn, mr, mf, trivial⟩ trivial (by kernel_rfl) hS (by kernel_rfl)
    · cases pL : lineS (chkG es cyc) per sh with
      | false =>
        have mn := newE_m (c := c) C.length oc1 hn1 pL 8 9
        have mr := rline_m (c := c) hn1 pL 10
        have mf := failed_m (e := 471) (.inl rfl) 10
        exact memo_pure (hs := [(12, .call _), (21, .val (.int .i64 (if (129 : Int) < n then 129 else (n : Int))) (.int .i64 (es.length : Nat))), (22, .slc 22 _ none _ none _), (29, .val (.int .i64 (if (12 : Int) < m then 12 else (m : Int))) (.int .i64 (C.length : Nat))), (30, .slc 27 _ none _ none _), (31, .app _ _ _ _ _ _ _ _), (35, .call _), (39, .call _), (43, .call _)]) (ch := []) 10 (evk 50) special ⟨wakes_m 3, congrArg (Value.int .i64) e1, h1, congrArg (Value.int .i64) e2, h2, ap, mn, mr, mf, trivial⟩ trivial (by kernel_rfl) hS (by kernel_rfl)
      | true =>
        by_cases h8 : C.length = 8
        · have hlo := fun e b => loopOk_of_L (wB_loop (n := es.length) (c := c) (cyc := cyc) (per := per) (sh := sh) (e := e) (C := C) (by omega) C.length 0 [] b (by omega) rfl)
          obtain ⟨c0, c1, c2, c3, c4, c5, c6, c7, rfl⟩ := eight h8
          have hbg : ∀ b, badG (([c0, c1, c2, c3, c4, c5, c6, c7] : List Int).drop 0) b = badG [c0, c1, c2, c3, c4, c5, c6, c7] b := fun _ => rfl
          have mr := rline_m (c := c) hn1 pL 15
          cases hg : fbad [c0, c1, c2, c3, c4, c5, c6, c7] 0 with
          | some j =>
            have mn := new_m (c := c) (d := oc1) hn1 pL c0 c1 c2 c3 c4 c5 c6 c7 hg
            have mf := failed_m (e := 2) (.inr rfl) 21
            have hlo := hlo 2 false
            rw [hbg, badG_fbad [c0, c1, c2, c3, c4, c5, c6, c7] 0, hg] at hlo
            exact memo_pure (hs := [(12, .call _), (21, .val (.int .i64 (if (129 : Int) < n then 129 else (n : Int))) (.int .i64 (es.length : Nat))), (22, .slc 22 _ none _ none _), (29, .val (.int .i64 (if (12 : Int) < m then 12 else (m : Int))) (.int .i64 (([c0, c1, c2, c3, c4, c5, c6, c7] : List Int).length : Nat))), (30, .slc 27 _ none _ none _), (31, .app _ _ _ _ _ _ _ _), (35, .call _), (39, .call _), (75, .call _)]) (ch := [⟨11, none, .loop (lp Try.prog 3 11), T3 14 15 8 2 false 0, [], HW 15 es.length c cyc per sh (.slice none 0 0) [c0, c1, c2, c3, c4, c5, c6, c7], 18, _, false⟩]) 21 (evk 50) special ⟨wakes_m 3, congrArg (Value.int .i64) e1, h1, congrArg (Value.int .i64) e2, h2, ap, mn, mr, mf, trivial⟩ ⟨codeOk_loop hlo, trivial⟩ (by kernel_rfl) hS (by kernel_rfl)
          | none =>
            have mn := new_m (c := c) (d := oc1) hn1 pL c0 c1 c2 c3 c4 c5 c6 c7 hg
            have hok := fbad_none hg
            have ml := like_m (C := [c0, c1, c2, c3, c4, c5, c6, c7]) (c := c) (d := 8) (e := oc2) (cyc := cyc) (per := per) (sh := sh) hn1 rfl 12 18 21 (by omega) (by omega) (by omega)
            have mc := mvQ (check_8 (C := [c0, c1, c2, c3, c4, c5, c6, c7]) (c := c) (d := 8) hn1 pL rfl hok) 11 21 (by kernel_rfl) rfl rfl
            have hlo := hlo 0 false
            rw [hbg, badG_fbad [c0, c1, c2, c3, c4, c5, c6, c7] 0, hg] at hlo
            exact memo_pure (hs := [(12, .call _), (21, .val (.int .i64 (if (129 : Int) < n then 129 else (n : Int))) (.int .i64 (es.length : Nat))), (22, .slc 22 _ none _ none _), (29, .val (.int .i64 (if (12 : Int) < m then 12 else (m : Int))) (.int .i64 (([c0, c1, c2, c3, c4, c5, c6, c7] : List Int).length : Nat))), (30, .slc 27 _ none _ none _), (31, .app _ _ _ _ _ _ _ _), (35, .call _), (39, .call _), (79, .call _), (82, .call _)]) (ch := [⟨11, none, .loop (lp Try.prog 3 11), T3 14 15 8 0 false 0, [], HW 15 es.length c cyc per sh (.slice none 0 0) [c0, c1, c2, c3, c4, c5, c6, c7], 18, _, false⟩]) 21 (evk 50) special ⟨wakes_m 3, congrArg (Value.int .i64) e1, h1, congrArg (Value.int .i64) e2, h2, ap, mn, mr, ml, mc, trivial⟩ ⟨codeOk_loop hlo, trivial⟩ (by kernel_rfl) hS (by kernel_rfl)
        · have hne : ((C.length : Int) != 8) = true := by simp; omega
          have hlo := loopOk_of_L (wA_loop (n := es.length) (c := c) (cyc := cyc) (per := per) (sh := sh) (e := 2) (C := C) (by omega) C.length 0 [] true (by omega) rfl)
          rw [badG_true] at hlo
          have mn := newL_m (c := c) (m := C.length) (d := oc1) hn1 pL hne 8 9
          have mr := rline_m (c := c) hn1 pL 10
          have mf := failed_m (e := 2) (.inr rfl) 16
          cases C with
          | nil => simp at hC; omega
          | cons y r =>
            exact memo_pure (hs := [(12, .call _), (21, .val (.int .i64 (if (129 : Int) < n then 129 else (n : Int))) (.int .i64 (es.length : Nat))), (22, .slc 22 _ none _ none _), (29, .val (.int .i64 (if (12 : Int) < m then 12 else (m : Int))) (.int .i64 ((y :: r).length : Nat))), (30, .slc 27 _ none _ none _), (31, .app _ _ _ _ _ _ _ _), (35, .call _), (39, .call _), (48, .val (.bool (((y :: r).length : Int) != 8)) (.bool true)), (75, .call _)]) (ch := [⟨11, none, .loop (lp Try.prog 3 11), T3 9 10 (y :: r).length 2 true 0, [], HW 10 es.length c cyc per sh (.slice none 0 0) (y :: r), 13, _, false⟩]) 16 (evk 50) special ⟨wakes_m 3, congrArg (Value.int .i64) e1, h1, congrArg (Value.int .i64) e2, h2, ap, mn, mr, congrArg Value.bool hne, mf, trivial⟩ ⟨codeOk_loop hlo, trivial⟩ (by kernel_rfl) hS (by kernel_rfl)
section
open Go.ChangeShapes Go.WideShapes Go.RowKit
variable {T : Type} {enc : TypeId × Value → T} {w : World} {base : Nat} {spare : Nat → Bool} {held : Bool} {r : Reach} {b0 : Nat}
structure I1 where
  x : Int
def I1.cells (a : I1) : List Value := [.int .i64 a.x]
theorem leavesI {row : List Value} (h : LeafL [.i .i64] row) : ∃ p : I1, row = p.cells := by
  obtain ⟨a, r1, rfl, hw, h1⟩ := h.int
  have e0 := h1.done
  subst e0
  exact ⟨⟨a⟩, rfl⟩
theorem ics : ∀ l : List I1, cellsOfL I1.cells l = ic (l.map I1.x)
  | [] => rfl
  | a :: r => by
    have ih := ics r
    simp only [cellsOfL, I1.cells, ih, ic, List.map_cons, List.cons_append, List.nil_append]
set_option maxRecDepth 100000 in
theorem open_ints1 {u : Value} {d2 : DataW T} {ps2 : List MemPlace} (hv2 : Value.okWide Try.prog w r b0 27 u) (hd2 : DataW.Trod enc Try.prog w base spare held 27 u d2 ps2) (h0 : CellsAt w 0) (b : Nat) :
    ∃ (hs : List I1) (sb : Option Addr) (k : Nat) (L : En.Loc), SlAt w b hs.length k sb (cellsOfL I1.cells hs) u L := by
  have hv3 : Cell.okWide Try.prog w r b0 27 u := by simpa only [Value.okWide, u27i] using hv2
  obtain ⟨fuel, hf⟩ := hd2
  have hcell : u.cells.toList = [u] := by
    cases u <;> first | rfl | (simp only [Cell.okWide, u27i, Cell.ok] at hv3)
  rw [hcell] at hf
  exact open_at (P := Try.prog) (f := I1.cells) (n := 5) u27i hv3 hf (ls := [.i .i64]) (by kernel_rfl) (s := 1) (by kernel_rfl) (fun _ => rfl) (fun _ => leavesI) h0 b
set_option maxRecDepth 100000 in
theorem calls_news {v u : Value} {d d2 : DataW T} {ps ps2 : List MemPlace} (h0 : CellsAt w 0) (hv : Value.okWide Try.prog w r b0 26 v) (hd : DataW.Trod enc Try.prog w base spare held 26 v d ps)
    (hv2 : Value.okWide Try.prog w r b0 27 u) (hd2 : DataW.Trod enc Try.prog w base spare held 27 u d2 ps2) :
    Calls Try.prog 3 [v, u].toArray w fun e w' => e = .returned (.bool true) ∧ Below w.heap.size w w' := by
  obtain ⟨cyc, per, sh, es, sa, c, L1, v1, rfl, hS⟩ := open_line (w := w) (r := r) (b0 := b0) (v := v) (enc := enc) (base := base) (spare := spare) (held := held) (d := d) (ps := ps) hv hd h0 0
  obtain ⟨hs, sb, k, L2, hL⟩ := open_ints1 (w := w) (r := r) (b0 := b0) (u := u) (enc := enc) (base := base) (spare := spare) (held := held) (d2 := d2) (ps2 := ps2) hv2 hd2 h0 1
  refine calls_open (φ := renL [L1, L2]) (news_Y sa es.length c cyc per sh (es.take 129) sb hs.length k ((hs.take 12).map I1.x) hS.sl hS.le hS.lt (by simp; omega) hL.sl hL.le hL.lt (by simp; omega)) (good_V fun b cs hb => ?_) ⟨?_, hL.rel rfl, trivial⟩
  · by_cases h0 : 0 = b
    · subst h0
      simp [roHp, Hp.get] at hb
      subst hb
      exact ⟨L1, rfl, brel_take hS 129 (ecs_av _)⟩
    · by_cases h1 : 1 = b
      · subst h1
        simp [roHp, Hp.get] at hb
        subst hb
        refine ⟨L2, rfl, ?_⟩
        have := brel_take (φ := renL [L1, L2]) hL 12 (by rw [ics]; exact ic_av _)
        rw [ics] at this
        simpa using this
      · simp [roHp, Hp.get, h0, h1] at hb
  · exact .agg' ⟨hS.rel rfl, .int _ _, .int _ _, .int _ _, trivial⟩
end
end Go.Proofs.Ytfpbgiaiifcnlaa.choose
namespace Go.Proofs.Ytfpbgiaiifcnlaa.portNews
open Go Go.En Go.ChangeShapes Go.WideShapes Go.ChangeAt Go.RowKit
set_option linter.unusedVariables false
theorem own : ownKnob Try.prog.godebug = none := by kernel_rfl
set_option maxRecDepth 100000 in
theorem lifted (os : Os) (started : os.Started) (H : Type) (enc : TypeId × Value → H) :
    ReturnsInHanded {} Try.checked os 3 .any (Rows.portNewsSpec.pre6 enc Try.prog Try.f3 Rows.portNewsRow.domain false) (Rows.portNewsSpec.post enc Try.prog Try.f3 false true false false) := by
  refine returnsInHanded_of_change_shaped (C := Try.checked) own started (by kernel_rfl) Try.func3
    (ChangeSpec.witness6 (enc := enc) (C := Try.checked) false ⟨#[], #[choose.lvS none 0 0 0 0 0, .slice none 0 0], []⟩ 8 (by kernel_rfl) (by kernel_rfl) (by kernel_rfl) (by kernel_rfl)) ?_
  intro W base args ds gs before hval0 hW hcnd _ hsh _
  have hval : ∀ (j : Nat) t v, Try.f3.params[j]? = some t → args[j]? = some v → Value.okWide Try.prog W .any base t v := hval0
  have hW2 := hW
  obtain ⟨p, q, hA0, hV, rfl, hfz, hnd⟩ := hW2
  have hA : DataW.TrodAll enc Try.prog W 0 (fun _ => true) true Try.f3.params.toList args.toList ds p := hA0
  rw [Try.params3] at hA hval
  obtain ⟨v0, v1, d0, d1, p0, p1, rfl, rfl, rfl, h0, h1⟩ := trodAll_two hA
  obtain ⟨rfl, rfl⟩ := trodVars_none hV
  have hwalk := choose.calls_news (choose.first_block hsh) (hval 0 26 v0 rfl rfl) h0 (hval 1 27 v1 rfl rfl) h1
  refine hwalk.mono fun e W' ⟨he, hb⟩ => ?_
  subst he
  exact ⟨_, rfl, law_post rfl (by kernel_rfl) (by kernel_rfl) rfl Try.underlying4 hW rfl rfl rfl hb⟩
theorem over : Rows.portNewsRow.holds Try.pinned (OpenSpec.ofChange Rows.portNewsSpec) :=
  OpenClaim.holds_of_wide 3 Try.f3 rfl rfl rfl rfl rfl rfl rfl ⟨rfl, rfl, rfl, rfl, rfl⟩ rfl rfl rfl rfl rfl (by kernel_rfl) Try.func3 (by kernel_rfl)
    (of_decide_eq_true (by kernel_rfl)) (by unfold Func.isWrapper; first | (rw [if_pos (by decide +kernel)]; kernel_rfl) | (rw [if_neg (by decide +kernel)]; exact ⟨rfl, rfl⟩))
    (fun os started H enc _ => lifted os started H enc)
theorem proved : Rows.PortNewsSaid := over
#print axioms proved
end Go.Proofs.Ytfpbgiaiifcnlaa.portNews
