/- A row's topology, opened. -/
import Derived.Test.YtkngbmaomgfcjaaTpR
import Derived.Test.YtkngbmaomgfcjaaEnOL
import Derived.HandedShaped
namespace Go.Proofs.Ytkngbmaomgfcjaa.topo
open Go Go.En Go.ChangeShapes Go.WideShapes Go.RowKit
set_option linter.unusedVariables false

theorem row1 {row : List Value} (h : LeafL [.b] row) : ∃ a : Bool, row = [Value.bool a] := by
  obtain ⟨a, r1, rfl, h1⟩ := h.bool
  have := h1.done
  subst this
  exact ⟨a, rfl⟩
theorem row4 {row : List Value} (h : LeafL [.i .i64, .i .i64, .i .i64, .i .i64] row) : ∃ a : Lk, row = a.cells := by
  obtain ⟨a, r1, rfl, _, h1⟩ := h.int
  obtain ⟨b, r2, rfl, _, h2⟩ := h1.int
  obtain ⟨c, r3, rfl, _, h3⟩ := h2.int
  obtain ⟨d, r4, rfl, _, h4⟩ := h3.int
  have := h4.done
  subst this
  exact ⟨⟨a, b, c, d⟩, rfl⟩
theorem bc_cells : ∀ S : List Bool, cellsOfL (fun x => [Value.bool x]) S = bc S
  | [] => rfl
  | x :: S => by simp only [cellsOfL, bc_cells S]; rfl
theorem lcs_cells : ∀ S : List Lk, cellsOfL Lk.cells S = lcs S
  | [] => rfl
  | x :: S => by simp only [cellsOfL, lcs_cells S, lcs]
section
variable {T : Type} {enc : TypeId × Value → T} {w : World} {base : Nat} {spare : Nat → Bool} {held : Bool} {r : Reach} {b0 : Nat}
set_option maxRecDepth 100000 in
/-- The abstract topology over blocks b and b + 1. -/
theorem open_topo {v : Value} {d : DataW T} {ps : List MemPlace} (hv : Value.okWide Try.prog w r b0 25 v) (hd : DataW.Trod enc Try.prog w base spare held 25 v d ps) (h0 : CellsAt w 0) (b : Nat) :
    ∃ (N : Int) (S : List Bool) (ls : List Lk) (sa : Option Addr) (c : Nat) (sb : Option Addr) (d : Nat) (L1 L2 : En.Loc) (v1 v2 : Value), v = .agg #[.int .i64 N, v1, v2] ∧ SlAt w b S.length c sa (bc S) v1 L1 ∧ SlAt w (b + 1) ls.length d sb (lcs ls) v2 L2 := by
  have q1 : fieldsOf Try.prog 25 = some [(3, 0), (22, 1), (23, 2)] := by kernel_rfl
  have q2 : Try.prog.cellTypes Try.prog.depth 25 = some [3, 22, 23] := by kernel_rfl
  have q4 := open_agg (P := Try.prog) (w := w) (r := r) (b0 := b0) (t := 25) (v := v) (enc := enc) (base := base) (spare := spare) (held := held) (d := d) (ps := ps) q1 q2 hv hd
  obtain ⟨cs, rfl, hlen, hfl, hcell⟩ := q4
  have c25 : Try.prog.cellsOf 25 = 3 := by kernel_rfl
  have c3 : Try.prog.cellsOf 3 = 1 := by kernel_rfl
  have c22 : Try.prog.cellsOf 22 = 1 := by kernel_rfl
  have c23 : Try.prog.cellsOf 23 = 1 := by kernel_rfl
  rw [c25] at hlen
  obtain ⟨x, y, z, rfl⟩ : ∃ x y z, cs = [x, y, z] := by
    match cs, hlen with
    | [x, y, z], _ => exact ⟨x, y, z, rfl⟩
  obtain ⟨n0, y0, g0⟩ := hfl (3, 0) (by simp)
  obtain ⟨n1, y1, g1⟩ := hfl (22, 1) (by simp)
  obtain ⟨n2, y2, g2⟩ := hfl (23, 2) (by simp)
  simp only [c3, c22, c23] at g0 g1 g2
  have u3 : Try.prog.underlying 3 = some (.int .i64) := by kernel_rfl
  obtain ⟨N, hN, _, _⟩ := DataW.trod_int u3 g0
  have hN : x = .int .i64 N := by simpa using hN
  subst hN
  have g1 : DataW.trod enc Try.prog w base spare held n1 22 [y] = some y1 := by simpa using g1
  have g2 : DataW.trod enc Try.prog w base spare held n2 23 [z] = some y2 := by simpa using g2
  obtain ⟨t1, e1, k1⟩ := hcell 1 y rfl
  have e1 : t1 = 22 := by simpa using e1.symm
  subst e1
  obtain ⟨t2, e2, k2⟩ := hcell 2 z rfl
  have e2 : t2 = 23 := by simpa using e2.symm
  subst e2
  obtain ⟨S, sa, c, L1, hS⟩ := open_at (P := Try.prog) (f := fun x : Bool => [Value.bool x]) (n := 5) u22 k1 g1 (ls := [.b]) (by kernel_rfl) (s := 1) (by kernel_rfl) (fun _ => rfl) (fun _ => row1) h0 b
  obtain ⟨ls, sb, d', L2, hL⟩ := open_at (P := Try.prog) (f := Lk.cells) (n := 5) u23 k2 g2 (ls := [.i .i64, .i .i64, .i .i64, .i .i64]) (by kernel_rfl) (s := 4) (by kernel_rfl) (fun _ => rfl) (fun _ => row4) h0 (b + 1)
  rw [bc_cells] at hS
  rw [lcs_cells] at hL
  exact ⟨N, S, ls, sa, c, sb, d', L1, L2, y, z, rfl, hS, hL⟩
set_option maxRecDepth 100000 in
/-- The law's function is called with a topology and other arguments without blocks. -/
theorem calls_t {f : FuncId} {v : Value} {rest : List Value} {d : DataW T} {ps : List MemPlace} (h0 : CellsAt w 0) (hv : Value.okWide Try.prog w r b0 25 v) (hd : DataW.Trod enc Try.prog w base spare held 25 v d ps) (hrest : ∀ φ : Ren, LRel φ rest rest)
    (h : ∀ Y : Raw, Memo.Ok Try.prog ⟨f, 2, Y.v :: rest, Y.V, .bool true, [], 2⟩) :
    Calls Try.prog f (v :: rest).toArray w fun e w' => e = .returned (.bool true) ∧ Below w.heap.size w w' := by
  obtain ⟨N, S, ls, sa, c, sb, d', L1, L2, v1, v2, rfl, hS, hL⟩ := open_topo (w := w) (r := r) (b0 := b0) (v := v) (enc := enc) (base := base) (spare := spare) (held := held) (d := d) (ps := ps) hv hd h0 0
  let Y : Raw := ⟨N, sa, c, sb, d', S, ls, hS.sl, hL.sl, hS.le, hS.lt, hL.le, hL.lt⟩
  refine calls_open (φ := renL [L1, L2]) (h Y) (good_V fun b cs hb => ?_) ⟨?_, hrest _⟩
  · by_cases h0 : 0 = b
    · subst h0
      simp [Raw.V, roHp, Hp.get] at hb
      subst hb
      exact ⟨L1, rfl, hS.brel (bc_av _)⟩
    · by_cases h1 : 1 = b
      · subst h1
        simp [Raw.V, roHp, Hp.get] at hb
        subst hb
        exact ⟨L2, rfl, hL.brel (lcs_av _)⟩
      · simp [Raw.V, roHp, Hp.get, h0, h1] at hb
  · exact .agg' ⟨.int _ _, hS.rel rfl, hL.rel rfl, trivial⟩
end
theorem first_block {w : World} (hw : w.ShapedOpen Try.prog) : CellsAt w 0 := by
  have hg : Try.prog.globals.size = 0 := by kernel_rfl
  refine cells_0 hw hg ?_
  have h : (match (begin Try.prog (fun _ _ => 0) default).world.heap[0]? with | some (.cells _ _ _) => true | _ => false) = true := by kernel_rfl
  cases he : (begin Try.prog (fun _ _ => 0) default).world.heap[0]? with
  | none => rw [he] at h; cases h
  | some o =>
    rw [he] at h
    cases o with
    | cells a b c => exact ⟨a, b, c, rfl⟩
    | _ => cases h
end Go.Proofs.Ytkngbmaomgfcjaa.topo
