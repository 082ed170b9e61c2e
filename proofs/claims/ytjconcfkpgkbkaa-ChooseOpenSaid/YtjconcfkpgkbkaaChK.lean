/- A row's line and heads, opened. -/
import Derived.Test.YtjconcfkpgkbkaaChJ
namespace Go.Proofs.Ytjconcfkpgkbkaa.choose
open Go Go.En Go.ChangeShapes Go.WideShapes Go.RowKit
set_option linter.unusedVariables false

/-- A line and heads as they are handed in: of the blocks, as much as few leaves. -/
structure Raw where
  sa : Option Addr
  n : Nat
  c : Nat
  cyc : Int
  per : Int
  sh : Int
  es : List Ent
  sb : Option Addr
  m : Nat
  k : Nat
  hs : List Pt
  ha : Sl 0 n sa
  hn : n ≤ c
  hc : c < openCap
  he : es.length = min n 129
  hb : Sl 1 m sb
  hm : m ≤ k
  hk : k < openCap
  hh : hs.length = min m 12
namespace Raw
variable (Y : Raw)
def lv : Value := lvS Y.sa Y.n Y.c Y.cyc Y.per Y.sh
def lw : Value := lvS Y.sa Y.es.length Y.c Y.cyc Y.per Y.sh
def hv : Value := .slice Y.sb Y.m Y.k
def V : List (Nat × List Value) := [(0, ecs Y.es), (1, pcs Y.hs)]
theorem smallH (k : Nat) : En.smallH k Y.V = true := by simp [En.smallH, V, small_avL (ecs_av _), small_avL (pcs_av _)]
theorem mv {f : FuncId} {args args' : List Value} {v v' : Value} {new new' : List (Nat × List Value)} {n' : Nat} (h : Memo.Ok Try.prog ⟨f, 2, args, Y.V, v, new, n'⟩) (nx : Nat)
    (hc : (En.smallL (En.small 2 5) args && En.small n' 5 v && inNew 2 n' new) = true) (hns : En.smallH n' new = true)
    (h1 : args.map (renV (shift (fun b => b) 2 nx) 5) = args') (h2 : renV (shift (fun b => b) 2 nx) 5 v = v') (h3 : renH (shift (fun b => b) 2 nx) new = new') : Memo.Ok Try.prog ⟨f, nx, args', Y.V, v', new', nx + (n' - 2)⟩ := by
  simp only [Bool.and_eq_true] at hc
  have hb : below 2 Y.V = true := by kernel_rfl
  have := memo_ren h (fun b => b) nx Y.V (by simp only [hc.1.1, hc.1.2, hc.2, hb, Bool.and_self]) (Y.smallH 2) hns (fun b cs hb => by
    by_cases h0 : 0 = b
    · subst h0
      simp [V, roHp, Hp.get] at hb ⊢
      subst hb
      exact (renV_avL (ecs_av _)).symm
    · by_cases h1 : 1 = b
      · subst h1
        simp [V, roHp, Hp.get] at hb ⊢
        subst hb
        exact (renV_avL (pcs_av _)).symm
      · simp [V, roHp, Hp.get, h0, h1] at hb)
  rwa [h1, h2, h3] at this
theorem few (h0 : 0 < Y.m) (nx : Nat) : Memo.Ok Try.prog ⟨12, nx, [Y.lv, Y.hv], Y.V, .tuple #[Y.lw, choose.hv (nx + 7) Y.hs.length oc7], [(nx + 7, pcs Y.hs)], nx + 8⟩ := by
  obtain ⟨sa, n, c, cyc, per, sh, es, sb, m, k, hs, ha, hn, hc, he, hb, hm, hk, hh⟩ := Y
  have hsb : sb = some ⟨1, 0, none⟩ := by
    rcases hb with ⟨_, h⟩ | h
    · simp only at h0; omega
    · exact h
  subst hsb
  have h := few_some (cyc := cyc) (per := per) (sh := sh) ha hn hc he hm hk hh h0
  have hs2 : En.smallH 10 [(9, pcs hs)] = true := by simp [En.smallH, small_avL (pcs_av _)]
  have hr : renH (shift (fun b => b) 2 nx) [(9, pcs hs)] = [(nx + 7, pcs hs)] := by
    simp only [renH, List.cons.injEq, Prod.mk.injEq, and_true]
    exact ⟨rfl, renV_avL (pcs_av _)⟩
  rcases ha with ⟨rfl, rfl⟩ | rfl <;>
    exact mv ⟨_, _, c, cyc, per, sh, es, _, m, k, hs, (by first | exact .inl ⟨rfl, rfl⟩ | exact .inr rfl), hn, hc, he, hb, hm, hk, hh⟩ h nx (by kernel_rfl) hs2 (by kernel_rfl) (by kernel_rfl) hr
theorem few0 (h0 : Y.m = 0) (nx : Nat) : Memo.Ok Try.prog ⟨12, nx, [Y.lv, Y.hv], Y.V, .tuple #[Y.lw, choose.hv (nx + 4) 0 0], [(nx + 4, [])], nx + 8⟩ := by
  obtain ⟨sa, n, c, cyc, per, sh, es, sb, m, k, hs, ha, hn, hc, he, hb, hm, hk, hh⟩ := Y
  simp only at h0
  subst h0
  have h := few_none (cyc := cyc) (per := per) (sh := sh) (hs := hs) ha hn hc he hb hk
  rcases ha with ⟨rfl, rfl⟩ | rfl <;> rcases hb with ⟨rfl, _⟩ | rfl <;>
    exact mv ⟨_, _, c, cyc, per, sh, es, _, _, k, hs, (by first | exact .inl ⟨rfl, rfl⟩ | exact .inr rfl), hn, hc, he, (by first | exact .inl ⟨rfl, rfl⟩ | exact .inr rfl), hm, hk, hh⟩ h nx (by kernel_rfl) (by kernel_rfl) (by kernel_rfl) (by kernel_rfl) (by kernel_rfl)
end Raw
theorem leaves7 {row : List Value} (h : LeafL [.i .i64, .i .i64, .i .i64, .i .i64, .i .i64, .i .i64, .b] row) : ∃ p : Pt, row = p.cells := by
  obtain ⟨a, r1, rfl, _, h1⟩ := h.int
  obtain ⟨b, r2, rfl, _, h2⟩ := h1.int
  obtain ⟨c, r3, rfl, _, h3⟩ := h2.int
  obtain ⟨d, r4, rfl, _, h4⟩ := h3.int
  obtain ⟨e, r5, rfl, _, h5⟩ := h4.int
  obtain ⟨f, r6, rfl, _, h6⟩ := h5.int
  obtain ⟨g, r7, rfl, h7⟩ := h6.bool
  have e0 := h7.done
  subst e0
  exact ⟨⟨⟨a, b, c, d, e⟩, f, g⟩, rfl⟩
theorem leaves2 {row : List Value} (h : LeafL [.i .i64, .i .i64] row) : ∃ p : Ent, row = p.cells := by
  obtain ⟨a, r1, rfl, _, h1⟩ := h.int
  obtain ⟨b, r2, rfl, _, h2⟩ := h1.int
  have e0 := h2.done
  subst e0
  exact ⟨⟨a, b⟩, rfl⟩
theorem take_cells {α : Type} {f : α → List Value} : ∀ {l : List α} {n j : Nat} {u : Value}, (cellsOfL f (l.take n))[j]? = some u → (cellsOfL f l)[j]? = some u
  | [], n, j, u, h => by simpa using h
  | a :: l, 0, j, u, h => by simp [cellsOfL] at h
  | a :: l, n + 1, j, u, h => by
    simp only [List.take_succ_cons, cellsOfL] at h ⊢
    by_cases hj : j < (f a).length
    · rw [List.getElem?_append_left hj] at h ⊢
      exact h
    · rw [List.getElem?_append_right (by omega)] at h ⊢
      exact take_cells h
section
variable {T : Type} {enc : TypeId × Value → T} {w : World} {base : Nat} {spare : Nat → Bool} {held : Bool} {r : Reach} {b0 : Nat}
theorem brel_take {α : Type} {f : α → List Value} {b n c : Nat} {sa : Option Addr} {l : List α} {v' : Value} {L : En.Loc} {φ : Ren} (h : SlAt w b n c sa (cellsOfL f l) v' L) (q : Nat) (ha : avL (cellsOfL f (l.take q)) = true) : BRel φ w L (.cells (cellsOfL f (l.take q)) true) := by
  obtain ⟨⟨arr, el, fr, e1, e2⟩, h2, h3, h4⟩ := h
  exact SlAt.brel (n := n) (sa := sa) (b := b) (v' := v') ⟨⟨arr, el, fr, e1, fun j u hu => e2 j u (take_cells hu)⟩, h2, h3, h4⟩ ha
set_option maxRecDepth 100000 in
theorem open_line {v : Value} {d : DataW T} {ps : List MemPlace} (hv : Value.okWide Try.prog w r b0 26 v) (hd : DataW.Trod enc Try.prog w base spare held 26 v d ps) (h0 : CellsAt w 0) (b : Nat) :
    ∃ (cyc per sh : Int) (es : List Ent) (sa : Option Addr) (c : Nat) (L1 : En.Loc) (v1 : Value), v = .agg #[v1, .int .i64 cyc, .int .i64 per, .int .i64 sh] ∧ SlAt w b es.length c sa (ecs es) v1 L1 := by
  have q1 : fieldsOf Try.prog 26 = some [(24, 0), (3, 2), (3, 3)] := by kernel_rfl
  have q2 : Try.prog.cellTypes Try.prog.depth 26 = some [22, 3, 3, 3] := by kernel_rfl
  have q4 := open_agg (P := Try.prog) (w := w) (r := r) (b0 := b0) (t := 26) (v := v) (enc := enc) (base := base) (spare := spare) (held := held) (d := d) (ps := ps) q1 q2 hv hd
  obtain ⟨cs, rfl, hlen, hfl, hcell⟩ := q4
  have c26 : Try.prog.cellsOf 26 = 4 := by kernel_rfl
  have c24 : Try.prog.cellsOf 24 = 2 := by kernel_rfl
  have c3 : Try.prog.cellsOf 3 = 1 := by kernel_rfl
  have c22 : Try.prog.cellsOf 22 = 1 := by kernel_rfl
  rw [c26] at hlen
  obtain ⟨x, y, z, u, rfl⟩ : ∃ x y z u, cs = [x, y, z, u] := by
    match cs, hlen with
    | [x, y, z, u], _ => exact ⟨x, y, z, u, rfl⟩
  obtain ⟨n0, y0, g0⟩ := hfl (24, 0) (by simp)
  obtain ⟨n1, y1, g1⟩ := hfl (3, 2) (by simp)
  obtain ⟨n2, y2, g2⟩ := hfl (3, 3) (by simp)
  simp only [c3, c24] at g0 g1 g2
  have g0 : DataW.trod enc Try.prog w base spare held n0 24 [x, y] = some y0 := by simpa using g0
  have hu24 : ∃ fs, Try.prog.underlying 24 = some (.struct fs) ∧ fs.toList.map (fun f => (f.type, f.offset)) = [(22, 0), (3, 1)] := by
    have hfs : fieldsOf Try.prog 24 = some [(22, 0), (3, 1)] := by kernel_rfl
    unfold fieldsOf at hfs
    split at hfs
    case h_2 => cases hfs
    rename_i fs hu
    exact ⟨fs, hu, by simpa using hfs⟩
  obtain ⟨fs, hu, hfs⟩ := hu24
  obtain ⟨_, hin⟩ := trod_flds hu g0
  have hin' : ∀ p ∈ [((22 : Nat), (0 : Nat)), (3, 1)], ∃ fuel' yy, DataW.trod enc Try.prog w base spare held fuel' p.1 (([x, y].drop p.2).take (Try.prog.cellsOf p.1)) = some yy := by
    intro p hp
    rw [← hfs] at hp
    obtain ⟨f, hf, rfl⟩ := List.mem_map.1 hp
    exact hin f hf
  obtain ⟨m0, w0, k0⟩ := hin' (22, 0) (by simp)
  obtain ⟨m1, w1, k1⟩ := hin' (3, 1) (by simp)
  simp only [c3, c22] at k0 k1
  have u3 : Try.prog.underlying 3 = some (.int .i64) := by kernel_rfl
  obtain ⟨cyc, hN, _, _⟩ := DataW.trod_int u3 k1
  have hN : y = .int .i64 cyc := by simpa using hN
  subst hN
  obtain ⟨per, hN, _, _⟩ := DataW.trod_int u3 g1
  have hN : z = .int .i64 per := by simpa using hN
  subst hN
  obtain ⟨sh, hN, _, _⟩ := DataW.trod_int u3 g2
  have hN : u = .int .i64 sh := by simpa using hN
  subst hN
  have k0 : DataW.trod enc Try.prog w base spare held m0 22 [x] = some w0 := by simpa using k0
  obtain ⟨t1, e1, kk⟩ := hcell 0 x rfl
  have e1 : t1 = 22 := by simpa using e1.symm
  subst e1
  obtain ⟨es, sa, c, L1, hS⟩ := open_at (P := Try.prog) (f := Ent.cells) (n := 5) u22 kk k0 (ls := [.i .i64, .i .i64]) (by kernel_rfl) (s := 2) (by kernel_rfl) (fun _ => rfl) (fun _ => leaves2) h0 b
  exact ⟨cyc, per, sh, es, sa, c, L1, x, rfl, hS⟩
theorem open_heads {u : Value} {d2 : DataW T} {ps2 : List MemPlace} (hv2 : Value.okWide Try.prog w r b0 27 u) (hd2 : DataW.Trod enc Try.prog w base spare held 27 u d2 ps2) (h0 : CellsAt w 0) (b : Nat) :
    ∃ (hs : List Pt) (sb : Option Addr) (k : Nat) (L : En.Loc), SlAt w b hs.length k sb (pcs hs) u L := by
  have hv3 : Cell.okWide Try.prog w r b0 27 u := by simpa only [Value.okWide, u27] using hv2
  obtain ⟨fuel, hf⟩ := hd2
  have hcell : u.cells.toList = [u] := by
    cases u <;> first | rfl | (simp only [Cell.okWide, u27, Cell.ok] at hv3)
  rw [hcell] at hf
  exact open_at (P := Try.prog) (f := Pt.cells) (n := 5) u27 hv3 hf (ls := [.i .i64, .i .i64, .i .i64, .i .i64, .i .i64, .i .i64, .b]) (by kernel_rfl) (s := 7) (by kernel_rfl) (fun _ => rfl) (fun _ => leaves7) h0 b
set_option maxRecDepth 100000 in
/-- The law's function is called with a line, heads and other arguments without blocks. -/
theorem calls_lh {f : FuncId} {v u : Value} {rest : List Value} {d d2 : DataW T} {ps ps2 : List MemPlace} (h0 : CellsAt w 0) (hv : Value.okWide Try.prog w r b0 26 v) (hd : DataW.Trod enc Try.prog w base spare held 26 v d ps)
    (hv2 : Value.okWide Try.prog w r b0 27 u) (hd2 : DataW.Trod enc Try.prog w base spare held 27 u d2 ps2) (hrest : ∀ φ : Ren, LRel φ rest rest)
    (h : ∀ Y : Raw, Memo.Ok Try.prog ⟨f, 2, Y.lv :: Y.hv :: rest, Y.V, .bool true, [], 2⟩) :
    Calls Try.prog f (v :: u :: rest).toArray w fun e w' => e = .returned (.bool true) ∧ Below w.heap.size w w' := by
  obtain ⟨cyc, per, sh, es, sa, c, L1, v1, rfl, hS⟩ := open_line (w := w) (r := r) (b0 := b0) (v := v) (enc := enc) (base := base) (spare := spare) (held := held) (d := d) (ps := ps) hv hd h0 0
  obtain ⟨hs, sb, k, L2, hL⟩ := open_heads (w := w) (r := r) (b0 := b0) (u := u) (enc := enc) (base := base) (spare := spare) (held := held) (d2 := d2) (ps2 := ps2) hv2 hd2 h0 1
  let Y : Raw := ⟨sa, es.length, c, cyc, per, sh, es.take 129, sb, hs.length, k, hs.take 12, hS.sl, hS.le, hS.lt, by simp; omega, hL.sl, hL.le, hL.lt, by simp; omega⟩
  refine calls_open (φ := renL [L1, L2]) (h Y) (good_V fun b cs hb => ?_) ⟨?_, hL.rel rfl, hrest _⟩
  · by_cases h0 : 0 = b
    · subst h0
      simp [Raw.V, roHp, Hp.get] at hb
      subst hb
      exact ⟨L1, rfl, brel_take hS 129 (ecs_av _)⟩
    · by_cases h1 : 1 = b
      · subst h1
        simp [Raw.V, roHp, Hp.get] at hb
        subst hb
        exact ⟨L2, rfl, brel_take hL 12 (pcs_av _)⟩
      · simp [Raw.V, roHp, Hp.get, h0, h1] at hb
  · exact .agg' ⟨hS.rel rfl, .int _ _, .int _ _, .int _ _, trivial⟩
end
theorem first_block {w : World} (hw : w.ShapedOpen Try.prog) : CellsAt w 0 := by
  have hg : Try.prog.globals.size = 0 := by kernel_rfl
  refine cells_0 hw hg ?_
  have h : (match (begin Try.prog (fun _ _ => 0) default).world.heap[0]? with | some (.cells _ _ _) => true | _ => false) = true := by kernel_rfl
  cases he : (begin Try.prog (fun _ _ => 0) default).world.heap[0]? with
  | none => rw [he] at h; cases h
  | some o =>
    rw [he] at h
    cases o with
    | cells a b c => exact ⟨a, b, c, rfl⟩
    | _ => cases h
end Go.Proofs.Ytjconcfkpgkbkaa.choose
