/- TopoChecks returns true for every pair of topologies, and its arguments read as before. No condition. -/
import Derived.Test.YtkngbmaomgfcjaaTpQ
import Derived.WalkKit
import Derived.ProofKit
namespace Go.Proofs.Ytkngbmaomgfcjaa.topo
open Go Go.En Go.ChangeShapes Go.WideShapes Go.RowKit
set_option linter.unusedVariables false

def Raw.v2 (Y : Raw) : Value := tv Y.N (mv 2 Y.sa) Y.S.length Y.c (mv 3 Y.sb) Y.ls.length Y.d
def Raw.V2 (Y : Raw) : List (Nat × List Value) := [(2, bc Y.S), (3, lcs Y.ls)]
theorem few_m2 (Y : Raw) (nx : Nat) : Memo.Ok Try.prog ⟨11, nx, [Y.v2], Y.V2, Y.few.v2, [], nx⟩ := by
  have h := few_0 (N := Y.N) Y.hsa Y.hsb Y.hc Y.hc2 Y.hd Y.hd2 (bc_av Y.S) (lcs_av Y.ls)
  rw [← Y.fewv] at h
  have hb : below 2 Y.V = true := by kernel_rfl
  have hr : renV (shift ρ23 2 nx) 5 Y.v = Y.v2 := by
    show Value.agg ([_, _, _] : List Value).toArray = _
    rw [sl_ren2 Y.hsa (show shift ρ23 2 nx 0 = 2 from rfl), sl_ren2 Y.hsb (show shift ρ23 2 nx 1 = 3 from rfl)]
    rfl
  have hr2 : renV (shift ρ23 2 nx) 5 Y.few.v = Y.few.v2 := by
    show Value.agg ([_, _, _] : List Value).toArray = _
    rw [sl_ren2 Y.few.hsa (show shift ρ23 2 nx 0 = 2 from rfl), sl_ren2 Y.few.hsb (show shift ρ23 2 nx 1 = 3 from rfl)]
    rfl
  have := memo_ren h ρ23 nx Y.V2 (by simp only [En.smallL, show En.small 2 5 (tv Y.N Y.sa Y.S.length Y.c Y.sb Y.ls.length Y.d) = true from Y.small (Nat.le_refl 2), Y.few.small (Nat.le_refl 2), show below 2 [(0, bc Y.S), (1, lcs Y.ls)] = true from hb, inNew, Bool.and_self]) (Y.smallH 2) rfl (fun b cs hb => by
    by_cases h0 : 0 = b
    · subst h0
      simp [Raw.V2, roHp, Hp.get, ρ23] at hb ⊢
      subst hb
      exact (renV_avL (bc_av _)).symm
    · by_cases h1 : 1 = b
      · subst h1
        simp [Raw.V2, roHp, Hp.get, ρ23] at hb ⊢
        subst hb
        exact (renV_avL (lcs_av _)).symm
      · simp [roHp, Hp.get, h0, h1] at hb)
  simp only [List.map_cons, List.map_nil, show renV (shift ρ23 2 nx) 5 (tv Y.N Y.sa Y.S.length Y.c Y.sb Y.ls.length Y.d) = Y.v2 from hr, hr2, renH, Nat.sub_self, Nat.add_zero] at this
  exact this
theorem checks_0 (Y U : Raw) : Memo.Ok Try.prog ⟨8, 4, [Y.v, U.v2], Y.V ++ U.V2, .bool true, [], 4⟩ := by
  have f1 := few_m Y 6
  have f2 := few_m2 U 6
  have hS : En.smallH 4 (Y.V ++ U.V2) = true := by simp [En.smallH, Raw.V, Raw.V2, small_avL (bc_av _), small_avL (lcs_av _)]
  have hV : (nodupN (roHp (Y.V ++ U.V2)) && below 4 (Y.V ++ U.V2) && En.smallL (En.small 4 5) [Y.v, U.v2] && En.small 4 5 (.bool true)) = true := by
    have h1 : (nodupN (roHp (Y.V ++ U.V2)) && below 4 (Y.V ++ U.V2)) = true := by kernel_rfl
    have h2 : En.small 4 5 U.v2 = true := by
      show En.smallL (En.small 4 4) [_, _, _] = true
      simp only [En.smallL, sl_small (mv_sl (c := 2) U.hsa) (by omega : 2 < 4), sl_small (mv_sl (c := 3) U.hsb) (by omega : 3 < 4)]
      rfl
    simp only [h1, En.smallL, Y.small (by omega : 2 ≤ 4), h2, Bool.and_self, Bool.true_and]
    rfl
  have key : ∀ pa pb e, checkS Y.few = pa → checkS U.few = pb → eqT Y.few U.few = e → Memo.Ok Try.prog ⟨8, 4, [Y.v, U.v2], Y.V ++ U.V2, .bool true, [], 4⟩ := by
    intro pa pb e ha hb he
    have ra := right_m Y.few ha 6
    have ca := check_m Y.few Y.few_d Y.few_d2 ha 6
    have rb := right_m2 U.few hb 6
    have sr := sameR_0 Y.few U.few
    rw [eqR_eq, he] at sr
    have sr := at_ab sr 6
    have s1 := same_0 Y.few U.few Y.few_d Y.few_d2 U.few_d U.few_d2
    rw [ha, hb, he] at s1
    have s1 := at_ab s1 6
    have s2 := same_0 U.few Y.few U.few_d U.few_d2 Y.few_d Y.few_d2
    rw [ha, hb, eqT_symm, he] at s2
    have s2 := at_ba s2 6
    have s3 := same_0 Y.few Y.few Y.few_d Y.few_d2 Y.few_d Y.few_d2
    rw [ha, eqT_refl] at s3
    have s3 := at_aa s3 6
    cases pa <;> cases pb <;> cases e <;>
      exact memo_pure (hs := [(8, .call _), (11, .call _), (13, .call _), (15, .call _), (17, .call _), (33, .call _), (38, .call _), (42, .call _), (48, .call _), (55, .call _)]) (ch := []) 6 (evk 50) special ⟨wakes_m 6, f1, f2, ra, ca, rb, sr, s1, s2, s3, trivial⟩ trivial hV hS (by kernel_rfl)
  exact key _ _ _ rfl rfl rfl
set_option maxRecDepth 100000 in
theorem calls_c {T : Type} {enc : TypeId × Value → T} {w : World} {base : Nat} {spare : Nat → Bool} {held : Bool} {r : Reach} {b0 : Nat} {v u : Value} {d d2 : DataW T} {ps ps2 : List MemPlace} (h0 : CellsAt w 0) (hv : Value.okWide Try.prog w r b0 25 v) (hd : DataW.Trod enc Try.prog w base spare held 25 v d ps)
    (hv2 : Value.okWide Try.prog w r b0 25 u) (hd2 : DataW.Trod enc Try.prog w base spare held 25 u d2 ps2) :
    Calls Try.prog 8 [v, u].toArray w fun e w' => e = .returned (.bool true) ∧ Below w.heap.size w w' := by
  obtain ⟨N, S, ls, sa, c, sb, d', L1, L2, v1, v2, rfl, hS, hL⟩ := open_topo (w := w) (r := r) (b0 := b0) (v := v) (enc := enc) (base := base) (spare := spare) (held := held) (d := d) (ps := ps) hv hd h0 0
  obtain ⟨N', S', ls', sa', c', sb', e', L3, L4, u1, u2, rfl, hS', hL'⟩ := open_topo (w := w) (r := r) (b0 := b0) (v := u) (enc := enc) (base := base) (spare := spare) (held := held) (d := d2) (ps := ps2) hv2 hd2 h0 2
  let Y : Raw := ⟨N, sa, c, sb, d', S, ls, hS.sl, hL.sl, hS.le, hS.lt, hL.le, hL.lt⟩
  let U : Raw := ⟨N', mv 0 sa', c', mv 1 sb', e', S', ls', mv_sl hS'.sl, mv_sl hL'.sl, hS'.le, hS'.lt, hL'.le, hL'.lt⟩
  have e1 : mv 2 (mv 0 sa') = sa' := mv_mv hS'.sl 0
  have e2 : mv 3 (mv 1 sb') = sb' := mv_mv hL'.sl 1
  have hU : U.v2 = .agg #[.int .i64 N', .slice sa' S'.length c', .slice sb' ls'.length e'] := by
    show tv N' (mv 2 (mv 0 sa')) S'.length c' (mv 3 (mv 1 sb')) ls'.length e' = _
    rw [e1, e2]; rfl
  have hm := checks_0 Y U
  rw [hU] at hm
  refine calls_open (φ := renL [L1, L2, L3, L4]) hm (good_V fun b cs hb => ?_) ⟨?_, ?_, trivial⟩
  · simp only [Raw.V, Raw.V2, roHp, List.cons_append, List.nil_append, Hp.get] at hb
    (repeat' split at hb) <;> first
      | (rename_i hk; simp only [beq_iff_eq] at hk; subst hk; cases hb; first | exact ⟨L1, rfl, hS.brel (bc_av _)⟩ | exact ⟨L2, rfl, hL.brel (lcs_av _)⟩ | exact ⟨L3, rfl, hS'.brel (bc_av _)⟩ | exact ⟨L4, rfl, hL'.brel (lcs_av _)⟩)
      | cases hb
  · exact .agg' ⟨.int _ _, hS.rel rfl, hL.rel rfl, trivial⟩
  · exact .agg' ⟨.int _ _, hS'.rel rfl, hL'.rel rfl, trivial⟩
end Go.Proofs.Ytkngbmaomgfcjaa.topo
namespace Go.Proofs.Ytkngbmaomgfcjaa.topoChecks
open Go Go.En Go.ChangeShapes Go.WideShapes Go.ChangeAt Go.RowKit
set_option linter.unusedVariables false
theorem own : ownKnob Try.prog.godebug = none := by kernel_rfl
set_option maxRecDepth 100000 in
theorem lifted (os : Os) (started : os.Started) (H : Type) (enc : TypeId × Value → H) :
    ReturnsInHanded {} Try.checked os 8 .any (Rows.topoChecksSpec.pre6 enc Try.prog Try.f8 Rows.topoChecksRow.domain false) (Rows.topoChecksSpec.post enc Try.prog Try.f8 false true false false) := by
  refine returnsInHanded_of_change_shaped (C := Try.checked) own started (by kernel_rfl) Try.func8
    (ChangeSpec.witness6 (enc := enc) (C := Try.checked) false ⟨#[], #[topo.tv 0 none 0 0 none 0 0, topo.tv 0 none 0 0 none 0 0], []⟩ 8 (by kernel_rfl) (by kernel_rfl) (by kernel_rfl) (by kernel_rfl)) ?_
  intro W base args ds gs before hval0 hW hcnd _ hsh _
  have hval : ∀ (j : Nat) t v, Try.f8.params[j]? = some t → args[j]? = some v → Value.okWide Try.prog W .any base t v := hval0
  have hW2 := hW
  obtain ⟨p, q, hA0, hV, rfl, hfz, hnd⟩ := hW2
  have hA : DataW.TrodAll enc Try.prog W 0 (fun _ => true) true Try.f8.params.toList args.toList ds p := hA0
  rw [Try.params8] at hA hval
  obtain ⟨v0, v1, d0, d1, p0, p1, rfl, rfl, rfl, h0, h1⟩ := trodAll_two hA
  obtain ⟨rfl, rfl⟩ := trodVars_none hV
  have hwalk := topo.calls_c (topo.first_block hsh) (hval 0 25 v0 rfl rfl) h0 (hval 1 25 v1 rfl rfl) h1
  refine hwalk.mono fun e W' ⟨he, hb⟩ => ?_
  subst he
  exact ⟨_, rfl, law_post rfl (by kernel_rfl) (by kernel_rfl) rfl Try.underlying4 hW rfl rfl rfl hb⟩
theorem over : Rows.topoChecksRow.holds Try.pinned (OpenSpec.ofChange Rows.topoChecksSpec) :=
  OpenClaim.holds_of_wide 8 Try.f8 rfl rfl rfl rfl rfl rfl rfl ⟨rfl, rfl, rfl, rfl, rfl⟩ rfl rfl rfl rfl rfl (by kernel_rfl) Try.func8 (by kernel_rfl)
    (of_decide_eq_true (by kernel_rfl)) (by unfold Func.isWrapper; first | (rw [if_pos (by decide +kernel)]; kernel_rfl) | (rw [if_neg (by decide +kernel)]; exact ⟨rfl, rfl⟩))
    (fun os started H enc _ => lifted os started H enc)
theorem proved : Rows.TopoChecksSaid := over
#print axioms proved
end Go.Proofs.Ytkngbmaomgfcjaa.topoChecks
