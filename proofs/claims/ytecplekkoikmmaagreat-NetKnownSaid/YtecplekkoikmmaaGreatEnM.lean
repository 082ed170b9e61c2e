/- The engine, part M: from the evaluator's answer to a law's row. -/
import Derived.Test.YtecplekkoikmmaaGreatEnL
import Derived.Carry
import Derived.KernelRfl
import Derived.OpenShut
import Derived.ChangeSame
noncomputable section
namespace Go.En
set_option linter.unusedVariables false
variable {P : Program} {φ : Ren} {H : Hp} {K : Nat → Prop} {w : World}
open Go.RowKit Go.ChangeShapes Go.WideShapes

def noSpecialB (P : Program) : Bool := P.funcs.toList.all fun fn => !(fn.name == "runtime.NumGoroutine")
theorem noSpecial_of (h : noSpecialB P = true) : NoSpecial P := by
  intro f fn hf
  have := List.all_eq_true.1 h fn (by
    rw [← Array.getElem?_toList] at hf
    exact List.mem_of_getElem? hf)
  simpa using this

def noneRen : Ren := fun _ => none
theorem good_nil (w : World) (K : Nat → Prop) (hK : ∀ c, K c → c < w.heap.size) : Good noneRen [] K w :=
  ⟨fun b k h => by simp [Hp.get_nil] at h, fun b c k k' L L' h => by simp [Hp.get_nil] at h, fun b k L h => by simp [Hp.get_nil] at h, hK⟩

theorem below_of_went {w w' : World} (h : Went (fun c => c < w.heap.size) w w') : Below w.heap.size w w' :=
  ⟨h.os, h.tape, h.output, h.size, fun k hk => h.kept k hk⟩

/-- The evaluator says true of a closed call. -/
def saysTrue (P : Program) (n : Nat) (f : FuncId) : Bool :=
  match (ev P n).call f [] [] 0 with
  | some (.bool true, _, _) => true
  | _ => false
theorem closed_of {n : Nat} {f : FuncId} (hs : NoSpecial P) (h : saysTrue P n f = true) : ∃ H' nx', CallOk P f [] [] 0 (.bool true) H' nx' := by
  unfold saysTrue at h
  split at h
  · rename_i H' nx' he; exact ⟨H', nx', (ev_ok hs n).call he⟩
  · cases h
theorem calls_closed {f : FuncId} {H' : Hp} {nx' : Nat} (h : CallOk P f [] [] 0 (.bool true) H' nx') (w : World) : Calls P f #[] w fun e w' => e = .returned (.bool true) ∧ Below w.heap.size w w' := by
  have := h.2 noneRen w (fun c => c < w.heap.size) [] (good_nil w _ (fun _ h => h)) (fun b _ _ => rfl) trivial
  refine Calls.mono this ?_
  rintro e w' ⟨v', φ', rfl, x1, x2, x3, x4⟩
  cases x1
  exact ⟨rfl, below_of_went x4⟩

/-- Every argument reads as it did, where nothing below the old size has turned. -/
theorem trodAll_below {T : Type} {enc : TypeId × Value → T} (hl : laidOutB P = true) {W W' : World} (hb : Below W.heap.size W W') : ∀ {ts : List TypeId} {vs : List Value} {ds : List (DataW T)} {ps : List MemPlace},
    (∀ t ∈ ts, P.readableRec t = true ∧ t < P.types.size) → (∀ x ∈ ps, x.block < W.heap.size) → DataW.TrodAll enc P W 0 (fun _ => true) true ts vs ds ps → DataW.TrodAll enc P W' 0 (fun b => decide (b < W.heap.size)) true ts vs ds ps
  | [], _, _, _, _, _, h => by
    obtain ⟨rfl, rfl, rfl⟩ := trodAll_nil h
    exact trodAll_mk0
  | t :: ts, _, _, _, ht, hp, h => by
    obtain ⟨v, vs1, d, ds1, a, b, rfl, rfl, rfl, h1, h2⟩ := trodAll_cons h
    have h3 := ht t (by simp)
    exact ⟨a, b, Below.trod hl h3.1 h3.2 h1 hb (fun x hx => hp x (by simp [hx])), trodAll_below hl hb (fun t' h' => ht t' (by simp [h'])) (fun x hx => hp x (by simp [hx])) h2, rfl⟩

def readsB (P : Program) (ts : List TypeId) : Bool := ts.all fun t => P.readableRec t && decide (t < P.types.size)

/-- What a law's row asks behind the call. -/
theorem law_post {T : Type} {enc : TypeId × Value → T} {f : Func} {s : ChangeSpec} (hv : s.vars = []) (hl : laidOutB P = true) (hr : readsB P f.params.toList = true) {t : TypeId} (ht : f.resultTypes = #[t]) (hu : P.underlying t = some .bool)
    {W W' : World} {args : Array Value} {ds gs : List (DataW T)} {before : List MemPlace} (hW : DataW.Whole enc P f.params.toList s.vars false W args.toList ds gs before)
    (hres : (s.fn T (ds ++ gs)).results = [.lit (.bool true)]) (hargs : (s.fn T (ds ++ gs)).args = ds) (hvars : (s.fn T (ds ++ gs)).vars = []) (hb : Below W.heap.size W W') :
    s.post enc P f false true false false W args (.bool true) W' := by
  have hlt : ∀ p ∈ before, p.block < W.heap.size := fun p hp => hW.lt p hp
  have hW0 := hW
  obtain ⟨p, q, hA, hV, rfl, hz, hn⟩ := hW
  rw [hv] at hV
  obtain ⟨rfl, rfl⟩ := trodVars_none hV
  refine ⟨ds, [], p ++ [], [], p, [], hW0, ?_, ?_, ?_, ?_, fun h => by cases h⟩
  · rw [hres, ht]
    exact trodAll_cons_mk (shut_bool hu _) trodAll_mk0
  · rw [hargs]
    refine trodAll_below hl hb (fun t h => ?_) (fun x hx => hlt x (by simp [hx])) hA
    have := List.all_eq_true.1 hr t h
    simpa using this
  · rw [hvars, hv]; rfl
  · exact World.keptBut_mono (fun p hp => hp.elim) (hb.frame (fun _ => False))
end Go.En
