/- A row's arguments: queues, parts, items. -/
import Derived.Test.YtddhglcmfoopnaaFnM
import Derived.Test.YtddhglcmfoopnaaEnOJ
import Derived.ProofKit
namespace Go.Proofs.Ytddhglcmfoopnaa.queue
open Go Go.En Go.ChangeShapes Go.WideShapes Go.RowKit
set_option linter.unusedVariables false

theorem leaves7 {row : List Value} (h : LeafL [.i .i64, .i .i64, .i .i64, .i .i64, .i .i64, .i .i64, .b] row) : ∃ p : Pt, row = p.cells := by
  obtain ⟨a, r1, rfl, _, h1⟩ := h.int
  obtain ⟨b, r2, rfl, _, h2⟩ := h1.int
  obtain ⟨c, r3, rfl, _, h3⟩ := h2.int
  obtain ⟨d, r4, rfl, _, h4⟩ := h3.int
  obtain ⟨e, r5, rfl, _, h5⟩ := h4.int
  obtain ⟨f, r6, rfl, _, h6⟩ := h5.int
  obtain ⟨g, r7, rfl, h7⟩ := h6.bool
  have e0 := h7.done
  subst e0
  exact ⟨⟨⟨a, b, c, d, e⟩, f, g⟩, rfl⟩
theorem leaves5 {row : List Value} (h : LeafL [.i .i64, .i .i64, .i .i64, .i .i64, .i .i64] row) : ∃ p : It, row = p.cells := by
  obtain ⟨a, r1, rfl, _, h1⟩ := h.int
  obtain ⟨b, r2, rfl, _, h2⟩ := h1.int
  obtain ⟨c, r3, rfl, _, h3⟩ := h2.int
  obtain ⟨d, r4, rfl, _, h4⟩ := h3.int
  obtain ⟨e, r5, rfl, _, h5⟩ := h4.int
  have e0 := h5.done
  subst e0
  exact ⟨⟨a, b, c, d, e⟩, rfl⟩
section
variable {T : Type} {enc : TypeId × Value → T} {w : World} {base : Nat} {spare : Nat → Bool} {held : Bool} {r : Reach} {b0 : Nat}
theorem open_part {v : Value} {d : DataW T} {ps : List MemPlace} (hv : Value.okWide Try.prog w r b0 28 v) (hd : DataW.Trod enc Try.prog w base spare held 28 v d ps) : ∃ p : Pt, v = p.v := by
  have hu : ∃ fs, Try.prog.underlying 28 = some (.struct fs) := by
    have h : (Try.prog.underlying 28).map (fun d => match d with | .struct _ => true | _ => false) = some true := by kernel_rfl
    cases hd : Try.prog.underlying 28 with
    | none => rw [hd] at h; cases h
    | some d => rw [hd] at h; cases d <;> simp at h; exact ⟨_, rfl⟩
  obtain ⟨fs, hu⟩ := hu
  obtain ⟨cs, rfl, _⟩ := okWide_struct hu hv
  obtain ⟨fuel, hf⟩ := hd
  obtain ⟨p, hp⟩ := leaves7 (flat_of 5 (P := Try.prog) (by kernel_rfl) hf)
  refine ⟨p, ?_⟩
  have : cs.toList = p.cells := hp
  show Value.agg cs = .agg ⟨p.cells⟩
  rw [← this]
theorem open_item {v : Value} {d : DataW T} {ps : List MemPlace} (hv : Value.okWide Try.prog w r b0 26 v) (hd : DataW.Trod enc Try.prog w base spare held 26 v d ps) : ∃ p : It, v = p.v := by
  have hu : ∃ fs, Try.prog.underlying 26 = some (.struct fs) := by
    have h : (Try.prog.underlying 26).map (fun d => match d with | .struct _ => true | _ => false) = some true := by kernel_rfl
    cases hd : Try.prog.underlying 26 with
    | none => rw [hd] at h; cases h
    | some d => rw [hd] at h; cases d <;> simp at h; exact ⟨_, rfl⟩
  obtain ⟨fs, hu⟩ := hu
  obtain ⟨cs, rfl, _⟩ := okWide_struct hu hv
  obtain ⟨fuel, hf⟩ := hd
  obtain ⟨p, hp⟩ := leaves5 (flat_of 5 (P := Try.prog) (by kernel_rfl) hf)
  refine ⟨p, ?_⟩
  have : cs.toList = p.cells := hp
  show Value.agg cs = .agg ⟨p.cells⟩
  rw [← this]
theorem rel_part (φ : Ren) (p : Pt) : VRel φ p.v p.v := av_rel (show avL p.cells = true from rfl)
theorem rel_item (φ : Ren) (p : It) : VRel φ p.v p.v := av_rel (show avL p.cells = true from rfl)
theorem pcs_get : ∀ {l : List Pt} {j : Nat} {v : Value}, (pcs l)[j]? = some v → ∃ i p r, l[i]? = some p ∧ p.cells[r]? = some v ∧ j = i * 7 + r
  | [], j, v, h => by simp [pcs] at h
  | p :: l, j, v, h => by
    simp only [pcs] at h
    by_cases hj : j < p.cells.length
    · rw [List.getElem?_append_left hj] at h
      exact ⟨0, p, j, rfl, h, by omega⟩
    · rw [List.getElem?_append_right (by omega)] at h
      obtain ⟨i, q, r, h1, h2, h3⟩ := pcs_get h
      have : p.cells.length = 7 := rfl
      exact ⟨i + 1, q, r, by simpa using h1, h2, by omega⟩
theorem trod_fields {t : TypeId} {fs : Array Field} {fuel : Nat} {cs : List Value} {x : DataW T × List MemPlace} (hu : Try.prog.underlying t = some (.struct fs)) (h : DataW.trod enc Try.prog w base spare held fuel t cs = some x) :
    cs.length = Try.prog.cellsOf t ∧ ∀ f ∈ fs.toList, ∃ fuel' y, DataW.trod enc Try.prog w base spare held fuel' f.type ((cs.drop f.offset).take (Try.prog.cellsOf f.type)) = some y := by
  cases fuel with
  | zero => cases h
  | succ fuel =>
    simp only [DataW.trod, hu] at h
    split at h
    · rename_i hl
      simp only [Option.map_eq_some_iff] at h
      obtain ⟨xs, hxs, _⟩ := h
      exact ⟨hl, fun f hf => let ⟨y, hy⟩ := mapM_all hxs f hf; ⟨fuel, y, hy⟩⟩
    · cases h
def fields24 (P : Program) : Option (List (Nat × Nat)) := match P.underlying 24 with
  | some (.struct fs) => some (fs.toList.map fun f => (f.type, f.offset))
  | _ => none
/-- A queue: its parts are nil, or lie in a block of the world. -/
theorem open_queue {v : Value} {d : DataW T} {ps : List MemPlace} (hv : Value.okWide Try.prog w r b0 24 v) (hd : DataW.Trod enc Try.prog w base spare held 24 v d ps) :
    ∃ cap : Int, v = q0 cap ∨ ∃ b o c arr el fr, ∃ l : List Pt, v = .agg #[.int .i64 cap, .slice (some ⟨b, o, none⟩) l.length c] ∧ l.length ≤ c ∧ c < openCap ∧ w.heap[b]? = some (.cells arr el fr) ∧
      ∀ (j : Nat) u, (pcs l)[j]? = some u → arr[o + j]? = some u := by
  have hfs : fields24 Try.prog = some [(3, 0), (22, 1)] := by kernel_rfl
  unfold fields24 at hfs
  split at hfs
  case h_2 => cases hfs
  rename_i fs hu
  have hv2 := hv
  simp only [Value.okWide, hu] at hv
  obtain ⟨cs, rfl, hsz, ts, hts, _, hcell⟩ := hv
  have h24 : Try.prog.cellsOf 24 = 2 := by kernel_rfl
  rw [h24] at hsz
  have hts2 : ts = [3, 22] := by
    have : Try.prog.cellTypes Try.prog.depth 24 = some [3, 22] := by kernel_rfl
    rw [this] at hts; simpa using hts.symm
  subst hts2
  obtain ⟨fuel, hf⟩ := hd
  obtain ⟨_, hflds⟩ := trod_fields hu hf
  obtain ⟨x, y, hxy⟩ : ∃ x y, cs = #[x, y] := by
    match cs, hsz with
    | ⟨[x, y]⟩, _ => exact ⟨x, y, rfl⟩
  subst hxy
  have hf2 : ∃ f0 f1, fs.toList = [f0, f1] ∧ f0.type = 3 ∧ f0.offset = 0 ∧ f1.type = 22 ∧ f1.offset = 1 := by
    simp only [Option.some.injEq] at hfs
    match h : fs.toList, hfs with
    | [f0, f1], hfs => simp at hfs; exact ⟨f0, f1, rfl, hfs.1.1, hfs.1.2, hfs.2.1, hfs.2.2⟩
    | [], hfs => simp at hfs
    | [_], hfs => simp at hfs
    | _ :: _ :: _ :: _, hfs => simp at hfs
  obtain ⟨f0, f1, hfl, t0, o0, t1, o1⟩ := hf2
  have c3 : Try.prog.cellsOf 3 = 1 := by kernel_rfl
  have c22 : Try.prog.cellsOf 22 = 1 := by kernel_rfl
  have c28 : Try.prog.cellsOf 28 = 7 := by kernel_rfl
  obtain ⟨n0, y0, g0⟩ := hflds f0 (by rw [hfl]; simp)
  obtain ⟨n1, y1, g1⟩ := hflds f1 (by rw [hfl]; simp)
  rw [t0, o0, c3] at g0
  rw [t1, o1, c22] at g1
  have u3 : Try.prog.underlying 3 = some (.int .i64) := by kernel_rfl
  obtain ⟨cap, hcap, _, _⟩ := DataW.trod_int u3 g0
  have hcap : x = .int .i64 cap := by simpa [Value.cells] using hcap
  subst hcap
  have g1 : DataW.trod enc Try.prog w base spare held n1 22 [y] = some y1 := by simpa [Value.cells] using g1
  obtain ⟨u, hu1, hu2⟩ := hcell 1 y rfl
  have hu1 : u = 22 := by simpa using hu1.symm
  subst hu1
  refine ⟨cap, ?_⟩
  rcases open_sl (P := Try.prog) (n := 5) u22 hu2 g1 (ls := [.i .i64, .i .i64, .i .i64, .i .i64, .i .i64, .i .i64, .b]) (by kernel_rfl) with h | ⟨b, o, len, c, arr, el, fr, rfl, h1, h2, h3, h4⟩
  · left; rw [h]; rfl
  · right
    obtain ⟨l, hl, hq⟩ := list_of (Φ := fun i (p : Pt) => ∀ (j : Nat) u, p.cells[j]? = some u → arr[o + i * 7 + j]? = some u) len (fun i hi => by
      obtain ⟨row, hr1, hr2⟩ := h4 i hi
      obtain ⟨p, rfl⟩ := leaves7 hr1
      rw [c28] at hr2
      exact ⟨p, hr2⟩)
    subst hl
    refine ⟨b, o, c, arr, el, fr, l, rfl, h1, by unfold maxLen at h2; unfold openCap; omega, h3, fun j u hu => ?_⟩
    obtain ⟨i, p, r, e1, e2, e3⟩ := pcs_get hu
    have := hq i p e1 r u e2
    rw [← this]
    congr 1; omega
/-- The law's function is called with a queue and other arguments without blocks. -/
theorem calls_q {f : FuncId} {v : Value} {rest : List Value} {d : DataW T} {ps : List MemPlace} (hv : Value.okWide Try.prog w r b0 24 v) (hd : DataW.Trod enc Try.prog w base spare held 24 v d ps) (hrest : ∀ φ : Ren, LRel φ rest rest)
    (h1 : ∀ cap, Memo.Ok Try.prog ⟨f, 0, q0 cap :: rest, [], .bool true, [], 0⟩)
    (h2 : ∀ (cap : Int) (c : Nat) (l : List Pt), l.length ≤ c → c < openCap → Memo.Ok Try.prog ⟨f, 1, qv cap 0 0 l.length c :: rest, [(0, pcs l)], .bool true, [], 1⟩) :
    Calls Try.prog f (v :: rest).toArray w fun e w' => e = .returned (.bool true) ∧ Below w.heap.size w w' := by
  obtain ⟨cap, h | ⟨b, o, c, arr, el, fr, l, rfl, e1, e2, e3, e4⟩⟩ := open_queue hv hd
  · subst h
    refine calls_open (φ := noneRen) (h1 cap) (good_nil w _ fun _ h => h) ⟨av_rel rfl, hrest _⟩
  · refine calls_open (h2 cap c l e1 e2) (good_one e3 (avL_pcs l) e4) ⟨?_, hrest _⟩
    refine .agg' ⟨.int _ _, ?_, trivial⟩
    have := VRel.sl (φ := ren1 b o) 0 0 l.length c ⟨b, o, 0⟩ rfl e2
    simpa using this
end
end Go.Proofs.Ytddhglcmfoopnaa.queue
