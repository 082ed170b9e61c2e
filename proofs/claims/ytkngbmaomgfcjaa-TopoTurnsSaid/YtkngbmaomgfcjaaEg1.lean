/- Parts of a proof, joined: A, B, C, D, E, F, G, H, I. -/
import Derived.Below
import Derived.Laws.AppendOwn
import Derived.Laws.CopyRow
import Derived.LoopNIn
import Derived.RangeFuncCalls
import Derived.RangeFuncLeaves
import Derived.RangeFuncRecord
import Derived.Scope
/- The engine, part A: abstract values and blocks, the relation to the world. Generic over the program. -/
namespace Go.En
set_option linter.unusedVariables false

/-- Where a name lies in the world: block, first cell, end of the capacity (in cells). -/
structure Loc where
  blk : Nat
  off : Nat
  lim : Nat

abbrev Ren := Nat → Option Loc

/-- From here on a capacity is 'open': known in the world alone; what it says above this number is the cells of an element. -/
def openCap : Nat := 18446744073709551616

inductive FnRel (φ : Ren) : Fn → Fn → Prop
  | func (f : FuncId) : FnRel φ (.func f) (.func f)
  | method (n : String) : FnRel φ (.method n) (.method n)
  | methodOf (t : TypeId) (n : String) : FnRel φ (.methodOf t n) (.methodOf t n)
  | via (t : TypeId) (p : Array FieldStep) (f : FuncId) (b : Bool) : FnRel φ (.via t p f b) (.via t p f b)
  | yield (l : Nat) (L : Loc) (h : φ l = some L) : FnRel φ (.yield l) (.yield L.blk)

inductive VRel (φ : Ren) : Value → Value → Prop
  | bool (b : Bool) : VRel φ (.bool b) (.bool b)
  | int (k : IntKind) (n : Int) : VRel φ (.int k n) (.int k n)
  | float (k : FloatKind) (n : Nat) : VRel φ (.float k n) (.float k n)
  | str (s : ByteArray) : VRel φ (.string s) (.string s)
  | ptrN : VRel φ (.pointer none) (.pointer none)
  | ptr (b o : Nat) (L : Loc) (h : φ b = some L) : VRel φ (.pointer (some ⟨b, o, none⟩)) (.pointer (some ⟨L.blk, L.off + o, none⟩))
  | slN (n c : Nat) : VRel φ (.slice none n c) (.slice none n c)
  | sl (b o n c : Nat) (L : Loc) (h : φ b = some L) (hc : c < openCap) :
      VRel φ (.slice (some ⟨b, o, none⟩) n c) (.slice (some ⟨L.blk, L.off + o, none⟩) n c)
  | slO (b o n c c' : Nat) (L : Loc) (h : φ b = some L) (hc : openCap ≤ c) (hn : n ≤ c') (hl : L.off + o + c' * (c - openCap) = L.lim) :
      VRel φ (.slice (some ⟨b, o, none⟩) n c) (.slice (some ⟨L.blk, L.off + o, none⟩) n c')
  | slE (b o c : Nat) (a' : Addr) (L : Loc) (h : φ b = some L) (hc : openCap ≤ c) : VRel φ (.slice (some ⟨b, o, none⟩) 0 c) (.slice (some a') 0 0)
  | mapN : VRel φ (.map none) (.map none)
  | map (r : Nat) (L : Loc) (h : φ r = some L) : VRel φ (.map (some r)) (.map (some L.blk))
  | func (fn fn' : Fn) (xs ys zs us : Array Value) (hf : FnRel φ fn fn') (hs : xs.size = ys.size) (h : ∀ (i : Nat) v v', xs[i]? = some v → ys[i]? = some v' → VRel φ v v')
      (hs' : zs.size = us.size) (h' : ∀ (i : Nat) v v', zs[i]? = some v → us[i]? = some v' → VRel φ v v') : VRel φ (.func fn xs zs) (.func fn' ys us)
  | nilFunc : VRel φ .nilFunc .nilFunc
  | nilIface : VRel φ .nilIface .nilIface
  | iface (t : TypeId) (v v' : Value) (h : VRel φ v v') : VRel φ (.iface t v) (.iface t v')
  | agg (xs ys : Array Value) (hs : xs.size = ys.size) (h : ∀ (i : Nat) v v', xs[i]? = some v → ys[i]? = some v' → VRel φ v v') : VRel φ (.agg xs) (.agg ys)
  | tuple (xs ys : Array Value) (hs : xs.size = ys.size) (h : ∀ (i : Nat) v v', xs[i]? = some v → ys[i]? = some v' → VRel φ v v') : VRel φ (.tuple xs) (.tuple ys)

/-- φ' knows what φ knew. -/
def Ren.le (φ φ' : Ren) : Prop := ∀ b L, φ b = some L → φ' b = some L

theorem Ren.le_refl (φ : Ren) : φ.le φ := fun _ _ h => h
theorem Ren.le_trans {φ φ' φ'' : Ren} (h : φ.le φ') (k : φ'.le φ'') : φ.le φ'' := fun b L hb => k b L (h b L hb)

theorem FnRel.mono {φ φ' : Ren} (hl : φ.le φ') {f f' : Fn} (h : FnRel φ f f') : FnRel φ' f f' := by
  cases h with
  | func f => exact .func f
  | method n => exact .method n
  | methodOf t n => exact .methodOf t n
  | via t p f b => exact .via t p f b
  | yield l L h => exact .yield l L (hl _ _ h)

theorem VRel.mono {φ φ' : Ren} (hl : φ.le φ') {v v' : Value} (h : VRel φ v v') : VRel φ' v v' := by
  induction h with
  | bool b => exact .bool b
  | int k n => exact .int k n
  | float k n => exact .float k n
  | str s => exact .str s
  | ptrN => exact .ptrN
  | ptr b o L h => exact .ptr b o L (hl _ _ h)
  | slN n c => exact .slN n c
  | sl b o n c L h hc => exact .sl b o n c L (hl _ _ h) hc
  | slO b o n c c' L h hc hn hlim => exact .slO b o n c c' L (hl _ _ h) hc hn hlim
  | slE b o c a' L h hc => exact .slE b o c a' L (hl _ _ h) hc
  | mapN => exact .mapN
  | map r L h => exact .map r L (hl _ _ h)
  | func fn fn' xs ys zs us hf hs h hs' h' ih ih' => exact .func fn fn' xs ys zs us (hf.mono hl) hs ih hs' ih'
  | nilFunc => exact .nilFunc
  | nilIface => exact .nilIface
  | iface t v v' h ih => exact .iface t v v' ih
  | agg xs ys hs h ih => exact .agg xs ys hs ih
  | tuple xs ys hs h ih => exact .tuple xs ys hs ih

/-- Lists, cell by cell. -/
def LRel (φ : Ren) : List Value → List Value → Prop
  | [], [] => True
  | x :: xs, y :: ys => VRel φ x y ∧ LRel φ xs ys
  | _, _ => False

theorem LRel.length {φ : Ren} : ∀ {xs ys : List Value}, LRel φ xs ys → xs.length = ys.length
  | [], [], _ => rfl
  | _ :: xs, _ :: ys, h => by simp [LRel.length h.2]
  | [], _ :: _, h => h.elim
  | _ :: _, [], h => h.elim

theorem LRel.mono {φ φ' : Ren} (hl : φ.le φ') : ∀ {xs ys : List Value}, LRel φ xs ys → LRel φ' xs ys
  | [], [], _ => trivial
  | _ :: _, _ :: _, h => ⟨h.1.mono hl, LRel.mono hl h.2⟩
  | [], _ :: _, h => h.elim
  | _ :: _, [], h => h.elim

theorem LRel.get {φ : Ren} : ∀ {xs ys : List Value}, LRel φ xs ys → ∀ {i : Nat} {v : Value}, xs[i]? = some v → ∃ v', ys[i]? = some v' ∧ VRel φ v v'
  | [], [], _, i, v, h => by simp at h
  | x :: xs, y :: ys, h, 0, v, hv => by simp at hv; subst hv; exact ⟨y, rfl, h.1⟩
  | x :: xs, y :: ys, h, i + 1, v, hv => by simp at hv ⊢; exact LRel.get h.2 hv
  | [], _ :: _, h, _, _, _ => h.elim
  | _ :: _, [], h, _, _, _ => h.elim

theorem LRel.of_get {φ : Ren} : ∀ {xs ys : List Value}, xs.length = ys.length → (∀ (i : Nat) v v', xs[i]? = some v → ys[i]? = some v' → VRel φ v v') → LRel φ xs ys
  | [], [], _, _ => trivial
  | x :: xs, y :: ys, hl, h => ⟨h 0 x y rfl rfl, LRel.of_get (by simpa using hl) fun i v v' hv hv' => h (i + 1) v v' (by simpa using hv) (by simpa using hv')⟩
  | [], _ :: _, h, _ => by simp at h
  | _ :: _, [], h, _ => by simp at h

theorem LRel.append {φ : Ren} : ∀ {xs ys zs us : List Value}, LRel φ xs ys → LRel φ zs us → LRel φ (xs ++ zs) (ys ++ us)
  | [], [], _, _, _, h => h
  | _ :: _, _ :: _, _, _, h, k => ⟨h.1, LRel.append h.2 k⟩
  | [], _ :: _, _, _, h, _ => h.elim
  | _ :: _, [], _, _, h, _ => h.elim

theorem LRel.take {φ : Ren} : ∀ (n : Nat) {xs ys : List Value}, LRel φ xs ys → LRel φ (xs.take n) (ys.take n)
  | 0, _, _, _ => by simp [LRel]
  | n + 1, [], [], _ => by simp [LRel]
  | n + 1, _ :: _, _ :: _, h => by simpa [LRel] using ⟨h.1, LRel.take n h.2⟩
  | n + 1, [], _ :: _, h => h.elim
  | n + 1, _ :: _, [], h => h.elim

theorem LRel.drop {φ : Ren} : ∀ (n : Nat) {xs ys : List Value}, LRel φ xs ys → LRel φ (xs.drop n) (ys.drop n)
  | 0, _, _, h => by simpa using h
  | n + 1, [], [], _ => by simp [LRel]
  | n + 1, _ :: _, _ :: _, h => by simpa using LRel.drop n h.2
  | n + 1, [], _ :: _, h => h.elim
  | n + 1, _ :: _, [], h => h.elim

theorem LRel.set {φ : Ren} {v v' : Value} (hv : VRel φ v v') : ∀ (n : Nat) {xs ys : List Value}, LRel φ xs ys → LRel φ (xs.set n v) (ys.set n v')
  | _, [], [], _ => by simp [LRel]
  | 0, _ :: _, _ :: _, h => by simpa [LRel] using ⟨hv, h.2⟩
  | n + 1, _ :: _, _ :: _, h => by simpa [LRel] using ⟨h.1, LRel.set hv n h.2⟩
  | _, [], _ :: _, h => h.elim
  | _, _ :: _, [], h => h.elim

theorem VRel.agg' {φ : Ren} {xs ys : Array Value} (h : LRel φ xs.toList ys.toList) : VRel φ (.agg xs) (.agg ys) := by
  refine .agg _ _ (by simpa using h.length) fun i v v' hv hv' => ?_
  obtain ⟨u, hu, hr⟩ := h.get (i := i) (v := v) (by simpa using hv)
  have : u = v' := by simpa [hv'] using hu.symm
  exact this ▸ hr
theorem VRel.tuple' {φ : Ren} {xs ys : Array Value} (h : LRel φ xs.toList ys.toList) : VRel φ (.tuple xs) (.tuple ys) := by
  refine .tuple _ _ (by simpa using h.length) fun i v v' hv hv' => ?_
  obtain ⟨u, hu, hr⟩ := h.get (i := i) (v := v) (by simpa using hv)
  have : u = v' := by simpa [hv'] using hu.symm
  exact this ▸ hr
theorem VRel.func' {φ : Ren} {fn fn' : Fn} {xs ys zs us : Array Value} (hf : FnRel φ fn fn') (h : LRel φ xs.toList ys.toList) (k : LRel φ zs.toList us.toList) : VRel φ (.func fn xs zs) (.func fn' ys us) := by
  refine .func _ _ _ _ _ _ hf (by simpa using h.length) (fun i v v' hv hv' => ?_) (by simpa using k.length) (fun i v v' hv hv' => ?_)
  · obtain ⟨u, hu, hr⟩ := h.get (i := i) (v := v) (by simpa using hv)
    have : u = v' := by simpa [hv'] using hu.symm
    exact this ▸ hr
  · obtain ⟨u, hu, hr⟩ := k.get (i := i) (v := v) (by simpa using hv)
    have : u = v' := by simpa [hv'] using hu.symm
    exact this ▸ hr

theorem lrel_of_arr {φ : Ren} {xs ys : Array Value} (hs : xs.size = ys.size) (h : ∀ (i : Nat) v v', xs[i]? = some v → ys[i]? = some v' → VRel φ v v') : LRel φ xs.toList ys.toList :=
  LRel.of_get (by simpa using hs) fun i v v' hv hv' => h i v v' (by simpa using hv) (by simpa using hv')

theorem VRel.agg_inv {φ : Ren} {xs : Array Value} {v' : Value} (h : VRel φ (.agg xs) v') : ∃ ys, v' = .agg ys ∧ LRel φ xs.toList ys.toList := by
  cases h with
  | agg xs ys hs h => exact ⟨ys, rfl, lrel_of_arr hs h⟩
theorem VRel.tuple_inv {φ : Ren} {xs : Array Value} {v' : Value} (h : VRel φ (.tuple xs) v') : ∃ ys, v' = .tuple ys ∧ LRel φ xs.toList ys.toList := by
  cases h with
  | tuple xs ys hs h => exact ⟨ys, rfl, lrel_of_arr hs h⟩
theorem VRel.func_inv {φ : Ren} {fn : Fn} {xs zs : Array Value} {v' : Value} (h : VRel φ (.func fn xs zs) v') :
    ∃ fn' ys us, v' = .func fn' ys us ∧ FnRel φ fn fn' ∧ LRel φ xs.toList ys.toList ∧ LRel φ zs.toList us.toList := by
  cases h with
  | func fn fn' xs ys zs us hf hs h hs' h' => exact ⟨fn', ys, us, rfl, hf, lrel_of_arr hs h, lrel_of_arr hs' h'⟩

/-- Address-free values: related to themselves alone. -/
def av1 : Value → Bool
  | .bool _ | .int _ _ | .float _ _ | .string _ | .pointer none | .slice none _ _ | .map none | .nilFunc | .nilIface => true
  | _ => false
def avL : List Value → Bool
  | [] => true
  | v :: r => av1 v && avL r
def av : Value → Bool
  | .agg cs => avL cs.toList
  | .tuple cs => avL cs.toList
  | .func (.func _) a b => a.toList.isEmpty && b.toList.isEmpty
  | v => av1 v

theorem av1_rel {φ : Ren} {v : Value} (h : av1 v = true) : VRel φ v v := by
  cases v with
  | bool b => exact .bool b
  | int k n => exact .int k n
  | float k n => exact .float k n
  | string s => exact .str s
  | pointer a => cases a with
    | none => exact .ptrN
    | some a => simp [av1] at h
  | slice a n c => cases a with
    | none => exact .slN n c
    | some a => simp [av1] at h
  | map r => cases r with
    | none => exact .mapN
    | some r => simp [av1] at h
  | nilFunc => exact .nilFunc
  | nilIface => exact .nilIface
  | _ => simp [av1] at h
theorem avL_rel {φ : Ren} : ∀ {xs : List Value}, avL xs = true → LRel φ xs xs
  | [], _ => trivial
  | x :: xs, h => by
    simp [avL] at h
    exact ⟨av1_rel h.1, avL_rel h.2⟩
theorem av_rel {φ : Ren} {v : Value} (h : av v = true) : VRel φ v v := by
  cases v with
  | agg cs => exact .agg' (avL_rel h)
  | tuple cs => exact .tuple' (avL_rel h)
  | func f a b =>
    cases f with
    | func f => 
      simp [av] at h
      obtain ⟨rfl, rfl⟩ := h
      exact .func' (.func f) (by simp [LRel]) (by simp [LRel])
    | _ => simp [av, av1] at h
  | _ => exact av1_rel (by simpa [av] using h)
theorem av1_eq {φ : Ren} {v v' : Value} (h : av1 v = true) (hr : VRel φ v v') : v' = v := by
  cases hr <;> first | rfl | simp [av1] at h
theorem avL_eq {φ : Ren} : ∀ {xs ys : List Value}, avL xs = true → LRel φ xs ys → ys = xs
  | [], [], _, _ => rfl
  | x :: xs, y :: ys, h, hr => by
    simp [avL] at h
    rw [av1_eq h.1 hr.1, avL_eq h.2 hr.2]
  | [], _ :: _, _, h => h.elim
  | _ :: _, [], _, h => h.elim
theorem av_eq {φ : Ren} {v v' : Value} (h : av v = true) (hr : VRel φ v v') : v' = v := by
  cases v with
  | agg cs =>
    obtain ⟨ys, rfl, hl⟩ := hr.agg_inv
    have := avL_eq h hl
    rw [Array.toList_inj.1 this]
  | tuple cs =>
    obtain ⟨ys, rfl, hl⟩ := hr.tuple_inv
    have := avL_eq h hl
    rw [Array.toList_inj.1 this]
  | func f a b =>
    cases f with
    | func f =>
      simp [av] at h
      obtain ⟨rfl, rfl⟩ := h
      obtain ⟨fn', ys, us, rfl, hf, h1, h2⟩ := hr.func_inv
      cases hf
      have h1 := h1.length
      have h2 := h2.length
      simp at h1 h2
      rw [Array.eq_empty_of_size_eq_zero h1.symm, Array.eq_empty_of_size_eq_zero h2.symm]
    | _ => simp [av, av1] at h
  | _ => exact av1_eq (by simpa [av] using h) hr

/-- A slot of which nothing is known. -/
def junk : Value := .complex .f32 0 0

theorem not_rel_junk {φ : Ren} {v' : Value} (h : VRel φ junk v') : False := by cases h

/-- Abstract temporaries. -/
def TRel (φ : Ren) (tm : List Value) (ts : Array Value) : Prop :=
  tm.length = ts.size ∧ ∀ (i : Nat) v, tm[i]? = some v → v = junk ∨ ∃ v', ts[i]? = some v' ∧ VRel φ v v'

theorem TRel.mono {φ φ' : Ren} (hl : φ.le φ') {tm : List Value} {ts : Array Value} (h : TRel φ tm ts) : TRel φ' tm ts :=
  ⟨h.1, fun i v hv => (h.2 i v hv).imp id fun ⟨v', h1, h2⟩ => ⟨v', h1, h2.mono hl⟩⟩

theorem TRel.set {φ : Ren} {tm : List Value} {ts : Array Value} (h : TRel φ tm ts) (i : Nat) {v v' : Value} (hv : VRel φ v v') : TRel φ (tm.set i v) (ts.setIfInBounds i v') := by
  refine ⟨by simp [h.1], fun j u hu => ?_⟩
  rw [List.getElem?_set] at hu
  by_cases hij : i = j
  · subst hij
    simp at hu
    obtain ⟨hlt, rfl⟩ := hu
    exact .inr ⟨v', by rw [Array.getElem?_setIfInBounds]; simp [← h.1, hlt], hv⟩
  · simp [hij] at hu
    rcases h.2 j u hu with h0 | ⟨u', h1, h2⟩
    · exact .inl h0
    · exact .inr ⟨u', by rw [Array.getElem?_setIfInBounds]; simp [hij, h1], h2⟩

/-- Blocks. -/
inductive Blk where
  | cells (cs : List Value) (ro : Bool)
  | loop (l : Loop)
  | defd
  | hid

def Blk.rw : Blk → Bool
  | .cells _ ro => !ro
  | .hid => false
  | _ => true

abbrev Hp := List (Nat × Blk)

def Hp.get : Hp → Nat → Option Blk
  | [], _ => none
  | (b, k) :: r, n => if b == n then some k else Hp.get r n

/-- What a block's place in the world holds. -/
def BRel (φ : Ren) (w : World) (L : Loc) : Blk → Prop
  | .cells cs ro => ∃ arr el fr, w.heap[L.blk]? = some (.cells arr el fr) ∧ (∀ (j : Nat) v, cs[j]? = some v → ∃ v', arr[L.off + j]? = some v' ∧ VRel φ v v') ∧
      (ro = false → fr = (0, 0) ∧ L.lim ≤ arr.size)
  | .loop l => ∃ l' : Loop, w.heap[L.blk]? = some (.loop l') ∧ l'.state = l.state ∧ l'.pending = l.pending ∧ TRel φ l.tmps.toList l'.tmps ∧ l'.params = l.params ∧ l'.assign = l.assign ∧ l'.body = l.body ∧
      ∃ D, φ l.defers = some D ∧ l'.defers = D.blk
  | .defd => w.heap[L.blk]? = some (.deferred (some []))
  | .hid => ∃ o, w.heap[L.blk]? = some o

structure Good (φ : Ren) (H : Hp) (K : Nat → Prop) (w : World) : Prop where
  rel : ∀ b k, H.get b = some k → ∃ L, φ b = some L ∧ BRel φ w L k
  sep : ∀ b c k k' L L', H.get b = some k → H.get c = some k' → b ≠ c → k.rw = true → φ b = some L → φ c = some L' → L.blk ≠ L'.blk
  prot : ∀ b k L, H.get b = some k → k.rw = true → φ b = some L → ¬ K L.blk
  kin : ∀ c, K c → c < w.heap.size

/-- The world has gone on; what K protects has stayed. -/
structure Went (K : Nat → Prop) (w w' : World) : Prop where
  os : w'.os = w.os
  tape : w'.tape = w.tape
  output : w'.output = w.output
  size : w.heap.size ≤ w'.heap.size
  kept : ∀ c, K c → w'.heap[c]? = w.heap[c]?

theorem Went.refl (K : Nat → Prop) (w : World) : Went K w w := ⟨rfl, rfl, rfl, Nat.le_refl _, fun _ _ => rfl⟩
theorem Went.trans {K : Nat → Prop} {a b c : World} (h : Went K a b) (k : Went K b c) : Went K a c :=
  ⟨k.os.trans h.os, k.tape.trans h.tape, k.output.trans h.output, Nat.le_trans h.size k.size, fun i hi => (k.kept i hi).trans (h.kept i hi)⟩

/-- Names from lo to hi are new in φ. -/
def Fresh (φ : Ren) (lo hi : Nat) : Prop := ∀ b, lo ≤ b → b < hi → φ b = none
/-- φ' is φ but for the names from lo to hi. -/
def Ext (φ φ' : Ren) (lo hi : Nat) : Prop := φ.le φ' ∧ ∀ b, b < lo ∨ hi ≤ b → φ' b = φ b

theorem Ext.refl (φ : Ren) (lo hi : Nat) : Ext φ φ lo hi := ⟨Ren.le_refl φ, fun _ _ => rfl⟩
theorem Ext.trans {φ φ' φ'' : Ren} {lo mi hi : Nat} (h : Ext φ φ' lo mi) (k : Ext φ' φ'' mi hi) (h1 : lo ≤ mi) (h2 : mi ≤ hi) : Ext φ φ'' lo hi :=
  ⟨Ren.le_trans h.1 k.1, fun b hb => by rw [k.2 b (by omega), h.2 b (by omega)]⟩
theorem Fresh.left {φ : Ren} {lo mi hi : Nat} (h : Fresh φ lo hi) (h2 : mi ≤ hi) : Fresh φ lo mi := fun b h3 h4 => h b h3 (by omega)
theorem Fresh.right {φ φ' : Ren} {lo mi hi : Nat} (h : Fresh φ lo hi) (he : Ext φ φ' lo mi) (h1 : lo ≤ mi) : Fresh φ' mi hi := fun b h3 h4 => by
  rw [he.2 b (.inr h3)]; exact h b (by omega) h4

end Go.En
/- The engine, part B: what reading, making and writing blocks does to the relation. -/
namespace Go.En
set_option linter.unusedVariables false

theorem VRel.one {φ : Ren} {v v' : Value} (h : VRel φ v v') : v'.oneCell' = v.oneCell' := by cases h <;> rfl

def oneL : List Value → Bool
  | [] => true
  | v :: r => v.oneCell' && oneL r
theorem oneL_mem {φ : Ren} : ∀ {vs us : List Value}, oneL vs = true → LRel φ vs us → ∀ u ∈ us, u.oneCell' = true
  | [], [], _, _, _, h => by simp at h
  | v :: vs, u :: us, h, hr, x, hx => by
    simp [oneL] at h
    rcases List.mem_cons.1 hx with rfl | hx
    · rw [hr.1.one]; exact h.1
    · exact oneL_mem h.2 hr.2 x hx
  | [], _ :: _, _, h, _, _ => h.elim
  | _ :: _, [], _, h, _, _ => h.elim

def Hp.set : Hp → Nat → Blk → Hp
  | [], _, _ => []
  | (b, k) :: r, n, x => if b == n then (b, x) :: r else (b, k) :: Hp.set r n x
def Hp.del : Hp → Nat → Hp
  | [], _ => []
  | (b, k) :: r, n => if b == n then Hp.del r n else (b, k) :: Hp.del r n

theorem Hp.get_set (n : Nat) (x : Blk) (m : Nat) : ∀ H : Hp, (H.set n x).get m = if m = n then (H.get n).map (fun _ => x) else H.get m
  | [] => by simp [Hp.set, Hp.get]
  | (b, k) :: r => by
    have ih := Hp.get_set n x m r
    by_cases hb : b = n
    · subst hb
      by_cases hm : m = b
      · subst hm; simp [Hp.set, Hp.get]
      · have : ¬ b = m := fun h => hm h.symm
        simp [Hp.set, Hp.get, hm, this]
    · by_cases hm : m = n
      · subst hm; simp [Hp.set, Hp.get, hb, ih]
      · by_cases hbm : b = m
        · simp [Hp.set, Hp.get, hm, hbm]
        · simp [Hp.set, Hp.get, hb, hm, hbm, ih]
theorem Hp.get_del (n m : Nat) : ∀ H : Hp, (H.del n).get m = if m = n then none else H.get m
  | [] => by simp [Hp.del, Hp.get]
  | (b, k) :: r => by
    have ih := Hp.get_del n m r
    by_cases hb : b = n
    · subst hb
      by_cases hm : m = b
      · subst hm; simp [Hp.del, ih]
      · have : ¬ b = m := fun h => hm h.symm
        simp [Hp.del, Hp.get, hm, this, ih]
    · by_cases hm : m = n
      · subst hm; simp [Hp.del, Hp.get, hb, ih]
      · by_cases hbm : b = m
        · simp [Hp.del, Hp.get, hm, hbm]
        · simp [Hp.del, Hp.get, hb, hm, hbm, ih]

theorem BRel.congr {φ : Ren} {w w' : World} {L : Loc} {k : Blk} (h : w'.heap[L.blk]? = w.heap[L.blk]?) (hb : BRel φ w L k) : BRel φ w' L k := by
  cases k <;> simpa only [BRel, h] using hb
theorem BRel.mono {φ φ' : Ren} (hl : φ.le φ') {w : World} {L : Loc} {k : Blk} (hb : BRel φ w L k) : BRel φ' w L k := by
  cases k with
  | cells cs ro =>
    obtain ⟨arr, el, fr, h1, h2, h3⟩ := hb
    exact ⟨arr, el, fr, h1, fun j v hv => let ⟨v', a, b⟩ := h2 j v hv; ⟨v', a, b.mono hl⟩, h3⟩
  | loop l =>
    obtain ⟨l', h1, h2, h3, h4, h5, h6, h7, D, h8, h9⟩ := hb
    exact ⟨l', h1, h2, h3, h4.mono hl, h5, h6, h7, D, hl _ _ h8, h9⟩
  | defd => exact hb
  | hid => exact hb
theorem BRel.lt {φ : Ren} {w : World} {L : Loc} {k : Blk} (hb : BRel φ w L k) : L.blk < w.heap.size := by
  have : ∃ o, w.heap[L.blk]? = some o := by
    cases k with
    | cells cs ro => obtain ⟨arr, el, fr, h1, _⟩ := hb; exact ⟨_, h1⟩
    | loop l => obtain ⟨l', h1, _⟩ := hb; exact ⟨_, h1⟩
    | defd => exact ⟨_, hb⟩
    | hid => exact hb
  obtain ⟨o, ho⟩ := this
  exact (Array.getElem?_eq_some_iff.1 ho).1

def Ren.put (φ : Ren) (n : Nat) (L : Loc) : Ren := fun b => if b = n then some L else φ b
theorem Ren.put_same (φ : Ren) (n : Nat) (L : Loc) : φ.put n L n = some L := by simp [Ren.put]
theorem Ren.put_other (φ : Ren) {n b : Nat} (L : Loc) (h : b ≠ n) : φ.put n L b = φ b := by simp [Ren.put, h]
theorem Ren.put_le {φ : Ren} {n : Nat} (h : φ n = none) (L : Loc) : φ.le (φ.put n L) := fun b M hb => by
  by_cases hn : b = n
  · subst hn; rw [h] at hb; cases hb
  · rw [Ren.put_other φ L hn]; exact hb
theorem Ext.put {φ : Ren} {n : Nat} (h : φ n = none) (L : Loc) : Ext φ (φ.put n L) n (n + 1) :=
  ⟨Ren.put_le h L, fun b hb => Ren.put_other φ L (by omega)⟩

section
variable {φ : Ren} {H : Hp} {K : Nat → Prop} {w w' : World}

theorem Good.named (g : Good φ H K w) {b : Nat} {k : Blk} (h : H.get b = some k) : ∃ L, φ b = some L := let ⟨L, h1, _⟩ := g.rel b k h; ⟨L, h1⟩
theorem Good.absent (g : Good φ H K w) {n : Nat} (h : φ n = none) : H.get n = none := by
  cases hk : H.get n with
  | none => rfl
  | some k => obtain ⟨L, hL, _⟩ := g.rel n k hk; rw [h] at hL; cases hL

theorem Good.at (g : Good φ H K w) {b : Nat} {k : Blk} {L : Loc} (h : H.get b = some k) (hL : φ b = some L) : BRel φ w L k := by
  obtain ⟨L', h1, h2⟩ := g.rel b k h
  rw [hL] at h1; cases h1; exact h2

theorem Good.sub (g : Good φ H K w) {H' : Hp} (h : ∀ b k, H'.get b = some k → H.get b = some k) : Good φ H' K w :=
  ⟨fun b k hb => g.rel b k (h b k hb), fun b c k k' L L' hb hc => g.sep b c k k' L L' (h b k hb) (h c k' hc), fun b k L hb => g.prot b k L (h b k hb), g.kin⟩

theorem Good.upd (g : Good φ H K w) {b : Nat} {k k' : Blk} {L : Loc} (hb : H.get b = some k) (hrw : k.rw = true) (hL : φ b = some L)
    (hw : ∀ c, c ≠ L.blk → w'.heap[c]? = w.heap[c]?) (hsz : w'.heap.size = w.heap.size) (hk' : BRel φ w' L k') : Good φ (H.set b k') K w' := by
  refine ⟨fun c x hx => ?_, fun c d x y M N hc hd hne hx hM hN => ?_, fun c x M hc hx hM => ?_, fun c hc => by rw [hsz]; exact g.kin c hc⟩
  · rw [Hp.get_set] at hx
    by_cases h : c = b
    · subst h; simp [hb] at hx; subst hx; exact ⟨L, hL, hk'⟩
    · simp [h] at hx
      obtain ⟨M, hM, hr⟩ := g.rel c x hx
      exact ⟨M, hM, hr.congr (hw _ (fun e => g.sep b c k x L M hb hx (fun e => h e.symm) hrw hL hM e.symm))⟩
  · rw [Hp.get_set] at hc hd
    by_cases h : c = b
    · subst h
      have h' : ¬ d = c := fun e => hne e.symm
      simp [h'] at hd
      exact g.sep c d k y M N hb hd hne hrw hM hN
    · simp [h] at hc
      by_cases h' : d = b
      · subst h'
        exact fun e => g.sep d c k x N M hb hc (fun e => h e.symm) hrw hN hM e.symm
      · simp [h'] at hd
        exact g.sep c d x y M N hc hd hne hx hM hN
  · rw [Hp.get_set] at hc
    by_cases h : c = b
    · subst h; exact g.prot c k M hb hrw hM
    · simp [h] at hc; exact g.prot c x M hc hx hM

theorem Good.new (g : Good φ H K w) {n : Nat} (hn : φ n = none) (o : Obj) {L : Loc} (hL : L.blk = w.heap.size) {k : Blk} (hk : BRel (φ.put n L) (w.alloc o) L k) :
    Good (φ.put n L) ((n, k) :: H) K (w.alloc o) := by
  have hle := Ren.put_le hn L
  have hHn := g.absent hn
  have hold : ∀ c, c < w.heap.size → (w.alloc o).heap[c]? = w.heap[c]? := fun c hc => Go.RowKit.Below.heap_alloc w o c hc
  have get : ∀ b, Hp.get ((n, k) :: H) b = if b = n then some k else H.get b := fun b => by
    by_cases h : b = n
    · subst h; simp [Hp.get]
    · have : ¬ n = b := fun e => h e.symm
      simp [Hp.get, h, this]
  refine ⟨fun b x hx => ?_, fun c d x y M N hc hd hne hx hM hN => ?_, fun c x M hc hx hM hK => ?_, fun c hc => by simp; exact Nat.lt_succ_of_lt (g.kin c hc)⟩
  · rw [get] at hx
    by_cases h : b = n
    · subst h; simp at hx; subst hx; exact ⟨L, Ren.put_same φ b L, hk⟩
    · simp [h] at hx
      obtain ⟨M, hM, hr⟩ := g.rel b x hx
      exact ⟨M, by rw [Ren.put_other φ L h]; exact hM, (hr.congr (hold _ hr.lt)).mono hle⟩
  · rw [get] at hc hd
    by_cases h : c = n
    · subst h
      have h' : ¬ d = c := fun e => hne e.symm
      simp [h'] at hd
      rw [Ren.put_same] at hM; cases hM
      rw [Ren.put_other φ L h'] at hN
      obtain ⟨N', hN', hr⟩ := g.rel d y hd
      rw [hN] at hN'; cases hN'
      have := hr.lt
      omega
    · simp [h] at hc
      rw [Ren.put_other φ L h] at hM
      by_cases h' : d = n
      · subst h'
        rw [Ren.put_same] at hN; cases hN
        obtain ⟨M', hM', hr⟩ := g.rel c x hc
        rw [hM] at hM'; cases hM'
        have := hr.lt
        omega
      · simp [h'] at hd
        rw [Ren.put_other φ L h'] at hN
        exact g.sep c d x y M N hc hd hne hx hM hN
  · rw [get] at hc
    by_cases h : c = n
    · subst h
      rw [Ren.put_same] at hM; cases hM
      have := g.kin _ hK
      omega
    · simp [h] at hc
      rw [Ren.put_other φ L h] at hM
      exact g.prot c x M hc hx hM hK

theorem Went.alloc (g : Good φ H K w) (o : Obj) : Went K w (w.alloc o) :=
  ⟨rfl, rfl, rfl, by simp, fun c hc => Go.RowKit.Below.heap_alloc w o c (g.kin c hc)⟩
theorem Good.drew (g : Good φ H K w) : Good φ H K w.drew :=
  ⟨fun b k h => let ⟨L, h1, h2⟩ := g.rel b k h; ⟨L, h1, h2.congr rfl⟩, g.sep, g.prot, g.kin⟩
theorem Went.drew (K : Nat → Prop) (w : World) : Went K w w.drew := ⟨rfl, rfl, rfl, Nat.le_refl _, fun _ _ => rfl⟩

/-- Reading cells. -/
theorem Good.read (g : Good φ H K w) {b : Nat} {cs : List Value} {ro : Bool} {L : Loc} (hb : H.get b = some (.cells cs ro)) (hL : φ b = some L) (o n : Nat) (hn : o + n ≤ cs.length) :
    ∃ us, us.length = n ∧ (∀ (j : Nat) v, us[j]? = some v → w.cell? ⟨L.blk, L.off + o + j, none⟩ = some v) ∧ LRel φ ((cs.drop o).take n) us := by
  obtain ⟨arr, el, fr, h1, h2, h3⟩ := g.at hb hL
  have hcell : ∀ i, w.cell? ⟨L.blk, i, none⟩ = arr[i]? := fun i => by simp [World.cell?, h1]
  refine ⟨((arr.toList.drop (L.off + o)).take n), ?_, ?_, ?_⟩
  · have hlen : ∀ j, j < n → L.off + (o + j) < arr.size := fun j hj => by
      obtain ⟨v', hv', _⟩ := h2 (o + j) (cs[o + j]'(by omega)) (by simp)
      exact (Array.getElem?_eq_some_iff.1 hv').1
    simp
    cases n with
    | zero => simp
    | succ m => have := hlen m (by omega); omega
  · intro j v hv
    rw [hcell]
    rw [List.getElem?_take] at hv
    split at hv
    · simpa [List.getElem?_drop, Nat.add_assoc] using hv
    · cases hv
  · refine LRel.of_get ?_ ?_
    · have hlen : ∀ j, j < n → L.off + (o + j) < arr.size := fun j hj => by
        obtain ⟨v', hv', _⟩ := h2 (o + j) (cs[o + j]'(by omega)) (by simp)
        exact (Array.getElem?_eq_some_iff.1 hv').1
      simp
      cases n with
      | zero => simp
      | succ m => have := hlen m (by omega); omega
    · intro j v v' hv hv'
      rw [List.getElem?_take] at hv hv'
      by_cases hj : j < n
      · simp [hj, List.getElem?_drop] at hv hv'
        obtain ⟨u, hu, hr⟩ := h2 (o + j) v hv
        rw [← Nat.add_assoc, hv'] at hu
        cases hu; exact hr
      · simp [hj] at hv

def spl (cs : List Value) (o : Nat) (vs : List Value) : List Value := cs.take o ++ vs ++ cs.drop (o + vs.length)
theorem spl_get (cs : List Value) (o : Nat) (vs : List Value) (h : o + vs.length ≤ cs.length) (j : Nat) :
    (spl cs o vs)[j]? = if j < o then cs[j]? else if j < o + vs.length then vs[j - o]? else cs[j]? := by
  unfold spl
  have hmin : min o cs.length = o := by omega
  by_cases h1 : j < o
  · rw [List.append_assoc, List.getElem?_append_left (by simp [hmin]; exact h1)]
    simp [h1]
  · by_cases h2 : j < o + vs.length
    · rw [List.append_assoc, List.getElem?_append_right (by simp [hmin]; omega), List.getElem?_append_left (by simp [hmin]; omega)]
      simp [h1, h2, hmin]
    · rw [List.getElem?_append_right (by simp [hmin]; omega)]
      simp [h1, h2, hmin, List.getElem?_drop]
      congr 1; omega
theorem spl_length (cs : List Value) (o : Nat) (vs : List Value) (h : o + vs.length ≤ cs.length) : (spl cs o vs).length = cs.length := by
  simp [spl]; omega

theorem setRow_other (w : World) (g : Nat) (c : Array Value) (k : Nat) (h : k ≠ g) : (w.setRow g c).heap[k]? = w.heap[k]? := by
  unfold World.setRow
  simp only [Array.getElem?_modify]
  rw [if_neg (fun e => h e.symm)]
theorem setRow_size (w : World) (g : Nat) (c : Array Value) : (w.setRow g c).heap.size = w.heap.size := by
  unfold World.setRow; simp

/-- Writing cells into a block that may be written. -/
theorem Good.write (P : Program) (g : Good φ H K w) {b : Nat} {cs : List Value} {L : Loc} (hb : H.get b = some (.cells cs false)) (hL : φ b = some L) {vs us : List Value} (o : Nat)
    (hn : o + vs.length ≤ cs.length) (h1 : oneL vs = true) (hr : LRel φ vs us) (hne : vs ≠ []) :
    ∃ w', (storeCells ⟨L.blk, L.off + o, none⟩ us).run P w = .ok () w' ∧ Good φ (H.set b (.cells (spl cs o vs) false)) K w' ∧ Went K w w' := by
  obtain ⟨arr, el, fr, h2, h3, h4⟩ := g.at hb hL
  obtain ⟨rfl, hlim⟩ := h4 rfl
  have hl := hr.length
  have hpos : 0 < vs.length := List.length_pos_iff.2 hne
  have hsz : L.off + cs.length ≤ arr.size := by
    obtain ⟨v', hv', _⟩ := h3 (cs.length - 1) (cs[cs.length - 1]'(by omega)) (by simp)
    have := (Array.getElem?_eq_some_iff.1 hv').1
    omega
  have hst := run_storeCells_at P L.blk (L.off + o) el us 0 arr w h2 (by omega) (oneL_mem h1 hr)
  refine ⟨_, hst, g.upd hb rfl hL (fun c hc => setRow_other w L.blk _ c hc) (setRow_size w L.blk _) ?_, ?_⟩
  · refine ⟨_, el, (0, 0), setRow_heap w L.blk arr _ el _ h2, fun j v hv => ?_, fun _ => ⟨rfl, by simp; omega⟩⟩
    have e := spl_get arr.toList (L.off + o) us (by simp; omega) (L.off + j)
    simp only [Nat.add_zero]
    change ∃ v', (spl arr.toList (L.off + o) us).toArray[L.off + j]? = some v' ∧ VRel φ v v'
    rw [List.getElem?_toArray, e]
    rw [spl_get cs o vs hn] at hv
    by_cases hj : j < o
    · simp [hj] at hv ⊢
      exact h3 j v hv
    · by_cases hj2 : j < o + vs.length
      · simp [hj, hj2] at hv
        obtain ⟨u, hu, hru⟩ := hr.get hv
        have h5 : ¬ L.off + j < L.off + o := by omega
        have h6 : L.off + j < L.off + o + us.length := by omega
        have h7 : L.off + j - (L.off + o) = j - o := by omega
        simp only [h5, h6, h7, if_true, if_false]
        exact ⟨u, hu, hru⟩
      · simp [hj, hj2] at hv
        have h5 : ¬ L.off + j < L.off + o := by omega
        have h6 : ¬ L.off + j < L.off + o + us.length := by omega
        simp only [h5, h6, if_false]
        obtain ⟨u, hu, hru⟩ := h3 j v hv
        exact ⟨u, by simpa using hu, hru⟩
  · exact ⟨rfl, rfl, rfl, Nat.le_of_eq (setRow_size w L.blk _).symm, fun c hc => setRow_other w L.blk _ c (fun e => g.prot b _ L hb rfl hL (e ▸ hc))⟩

/-- Making a row of cells. -/
theorem Good.make (g : Good φ H K w) {n : Nat} (hn : φ n = none) {cs us : List Value} (hr : LRel φ cs us) (t : TypeId) (lim : Nat) (us' : List Value) (hlim : lim ≤ us.length + us'.length) :
    Good (φ.put n ⟨w.heap.size, 0, lim⟩) ((n, .cells cs false) :: H) K (w.alloc (.cells (us ++ us').toArray t)) := by
  refine g.new hn _ (L := ⟨w.heap.size, 0, lim⟩) rfl ⟨(us ++ us').toArray, t, (0, 0), ?_, ?_, ?_⟩
  · show (w.heap.push _)[w.heap.size]? = _
    simp
  · intro j v hv
    obtain ⟨u, hu, hru⟩ := hr.get hv
    refine ⟨u, ?_, hru.mono (Ren.put_le hn _)⟩
    have hj : j < us.length := (List.getElem?_eq_some_iff.1 hu).1
    simp [List.getElem?_append_left hj, hu]
  · intro _; exact ⟨rfl, by simpa using hlim⟩
end
end Go.En
/- The engine, part C: single operations on abstract states, and that the world's operations do the same. -/
namespace Go.En
set_option linter.unusedVariables false
variable {P : Program} {φ : Ren} {H : Hp} {K : Nat → Prop} {w : World}

/-- An operand's abstract value. -/
def opv (tm : List Value) : Operand → Option Value
  | .tmp t => match tm[t]? with
    | some (.complex _ _ _) => none
    | v => v
  | .const v => if av v then some v else none
  | .func f => some (.func (.func f) #[] #[])
  | .global _ => none

theorem opv_rel {tm : List Value} {a : Act} (h : TRel φ tm a.tmps) {x : Operand} {v : Value} (hx : opv tm x = some v) : VRel φ v (a.eval x) := by
  cases x with
  | tmp t =>
    simp only [opv] at hx
    cases ht : tm[t]? with
    | none => simp [ht] at hx
    | some u =>
      rw [ht] at hx
      have hu : u = v := by
        cases u <;> simp at hx <;> exact hx
      subst hu
      rcases h.2 t u ht with rfl | ⟨v', h1, h2⟩
      · simp [junk] at hx
      · simp only [Act.eval, Array.getD_eq_getD_getElem?, h1]; exact h2
  | const c =>
    simp only [opv] at hx
    split at hx
    · cases hx; exact av_rel (by assumption)
    · cases hx
  | func f => simp only [opv] at hx; cases hx; exact .func' (.func f) (by simp [LRel]) (by simp [LRel])
  | global g => simp [opv] at hx

/-- A computation that touches nothing but the program's tables. -/
def plain (P : Program) {α : Type} : Sem α → Option α
  | .pure a => some a
  | .program k => plain P (k P)
  | .mark _ k => plain P k
  | _ => none
theorem plain_run {α : Type} (s : Sem α) : ∀ {a : α} (w : World), plain P s = some a → s.run P w = .ok a w := by
  induction s with
  | pure b => intro a w h; simp [plain] at h; subst h; rfl
  | program k ih => intro a w h; simp [plain] at h; simpa [Sem.run] using ih P w h
  | mark m k ih => intro a w h; simp [plain] at h; simpa [Sem.run] using ih w h
  | _ => intro a w h; simp [plain] at h

/-- A scalar result. -/
def sc (P : Program) (s : Sem Value) : Option Value :=
  match plain P s with
  | some v => if av v then some v else none
  | none => none
theorem sc_run {s : Sem Value} {v : Value} (h : sc P s = some v) (w : World) : s.run P w = .ok v w ∧ VRel φ v v := by
  unfold sc at h
  split at h
  · rename_i u hu
    split at h
    · cases h; exact ⟨plain_run s w hu, av_rel (by assumption)⟩
    · cases h
  · cases h

/-- 'x == y' beyond scalars: against nil. -/
def nilEq : Value → Value → Option Bool
  | .slice (some _) _ _, .slice none _ _ => some false
  | .slice none _ _, .slice (some _) _ _ => some false
  | .func .., .nilFunc => some false
  | .nilFunc, .func .. => some false
  | .pointer (some _), .pointer none => some false
  | .pointer none, .pointer (some _) => some false
  | .map (some _), .map none => some false
  | .map none, .map (some _) => some false
  | _, _ => none

def doBin (P : Program) (op : BinOp) (t : TypeId) (x y : Operand) (a b : Value) : Option Value :=
  if av a && av b then sc P (do eqGuard op t x y a b; binOp op t a b) else none

theorem doBin_ok {op : BinOp} {t : TypeId} {x y : Operand} {a b a' b' v : Value} (h : doBin P op t x y a b = some v) (ha : VRel φ a a') (hb : VRel φ b b') (w : World) :
    (do eqGuard op t x y a' b'; binOp op t a' b' : Sem Value).run P w = .ok v w ∧ VRel φ v v := by
  unfold doBin at h
  split at h
  · rename_i hv
    simp at hv
    rw [av_eq hv.1 ha, av_eq hv.2 hb]
    exact sc_run h w
  · cases h

def doUn (P : Program) (op : UnOp) (a : Value) : Option Value := if av a then sc P (Op.unary op a) else none
theorem doUn_ok {op : UnOp} {a a' v : Value} (h : doUn P op a = some v) (ha : VRel φ a a') (w : World) : (Op.unary op a').run P w = .ok v w ∧ VRel φ v v := by
  unfold doUn at h
  split at h
  · rename_i hv; rw [av_eq hv ha]; exact sc_run h w
  · cases h

def doConv (P : Program) (s d : TypeId) (a : Value) : Option Value := if av a then sc P (convert s d a) else none
theorem doConv_ok {s d : TypeId} {a a' v : Value} (h : doConv P s d a = some v) (ha : VRel φ a a') (w : World) : (convert s d a').run P w = .ok v w ∧ VRel φ v v := by
  unfold doConv at h
  split at h
  · rename_i hv; rw [av_eq hv ha]; exact sc_run h w
  · cases h

theorem cells_one {v : Value} (h : v.oneCell' = true) : v.cells = #[v] := by cases v <;> first | rfl | simp [Value.oneCell'] at h
theorem VRel.cells {v v' : Value} (h : VRel φ v v') (hn : v.oneCell' = true ∨ ∃ cs, v = .agg cs) : LRel φ v.cells.toList v'.cells.toList := by
  rcases hn with hn | ⟨cs, rfl⟩
  · rw [cells_one hn, cells_one (by rw [h.one]; exact hn)]
    exact ⟨h, trivial⟩
  · obtain ⟨ys, rfl, hl⟩ := h.agg_inv
    exact hl

def flatV : Value → Bool
  | .tuple _ => false
  | _ => true
theorem VRel.cells' {v v' : Value} (h : VRel φ v v') (hn : flatV v = true) : LRel φ v.cells.toList v'.cells.toList := by
  refine h.cells ?_
  cases v <;> simp [flatV, Value.oneCell'] at hn ⊢

def aggD : TypeDesc → Bool
  | .struct _ | .array _ _ => true
  | _ => false

theorem run_isAgg {t : TypeId} {d : TypeDesc} (h : P.underlying t = some d) (w : World) : (isAgg t).run P w = .ok (aggD d) w := by
  unfold isAgg
  simp only [Sem.run_bind, run_underlying h, Result.andThen_ok]
  cases d <;> rfl
theorem run_sizeOf {t : TypeId} {i : TypeInfo} (h : P.info? t = some i) (w : World) : (sizeOf t).run P w = .ok i.size w := by
  simp [sizeOf, typeInfo, h]
theorem run_zeroValue' {t : TypeId} {i : TypeInfo} {v : Value} (h : P.info? t = some i) (hz : i.zero = some v) (w : World) : (zeroValue t).run P w = .ok v w := by
  simp [zeroValue, typeInfo, h, hz]

/-- Loading a variable. -/
def doLoad (P : Program) (H : Hp) (t : TypeId) : Value → Option Value
  | .pointer (some ⟨b, o, none⟩) =>
    match H.get b, P.underlying t, P.info? t with
    | some (.cells cs _), some d, some i =>
      if aggD d then (if o + i.size ≤ cs.length then some (.agg ((cs.drop o).take i.size).toArray) else none)
      else cs[o]?
    | _, _, _ => none
  | _ => none

theorem Addr.add_none (b o n : Nat) : (⟨b, o, none⟩ : Addr).add n = ⟨b, o + n, none⟩ := by
  unfold Addr.add; split
  · rename_i h; subst h; rfl
  · rfl

theorem doLoad_ok (g : Good φ H K w) {t : TypeId} {a a' v : Value} (h : doLoad P H t a = some v) (ha : VRel φ a a') :
    ∃ v', (Instr.loadAt t a').run P w = .ok v' w ∧ VRel φ v v' := by
  unfold doLoad at h
  split at h
  · rename_i b o
    cases ha with
    | ptr _ _ L hL =>
      split at h
      · rename_i cs ro d i hb hu hi
        simp only [Instr.loadAt, Instr.sureAddr, loadVar]
        by_cases hd : aggD d = true
        · simp only [hd, if_true] at h
          split at h
          · rename_i hn
            cases h
            obtain ⟨us, hl, hc, hr⟩ := g.read hb hL o i.size hn
            have hrun := run_loadCells_list (P := P) w ⟨L.blk, L.off + o, none⟩ us (fun j v hv => by rw [Addr.add_none]; exact hc j v hv)
            rw [hl] at hrun
            refine ⟨.agg us.toArray, by simp [run_isAgg hu, hd, run_sizeOf hi, hrun], .agg' (by simpa using hr)⟩
          · cases h
        · have hd : aggD d = false := by simpa using hd
          simp only [hd, if_false, Bool.false_eq_true] at h
          have ho : o + 1 ≤ cs.length := (List.getElem?_eq_some_iff.1 h).1
          obtain ⟨us, hl, hc, hr⟩ := g.read hb hL o 1 ho
          match us, hl with
          | [u], _ =>
            have hu1 := hc 0 u rfl
            have h2 : (List.drop o cs).take 1 = [v] := by
              apply List.ext_getElem?
              intro j
              cases j with
              | zero => simp [h]
              | succ j => simp; omega
            rw [h2] at hr
            refine ⟨u, ?_, hr.1⟩
            simp at hu1
            simp [run_isAgg hu, hd, hu1]
      · cases h
  · cases h

/-- Storing a variable. -/
def doStore (P : Program) (H : Hp) (t : TypeId) (va vx : Value) : Option Hp :=
  match va with
  | .pointer (some ⟨b, o, none⟩) =>
    match H.get b, P.info? t with
    | some (.cells cs false), some i =>
      if flatV vx && vx.cells.toList.length == i.size && oneL vx.cells.toList && decide (o + vx.cells.toList.length ≤ cs.length) then
        (if vx.cells.toList.isEmpty then some H else some (H.set b (.cells (spl cs o vx.cells.toList) false)))
      else none
    | _, _ => none
  | _ => none

theorem doStore_ok (g : Good φ H K w) {t : TypeId} {a a' x x' : Value} {H' : Hp} (h : doStore P H t a x = some H') (ha : VRel φ a a') (hx : VRel φ x x') :
    ∃ w', (Instr.storeAt t a' x').run P w = .ok () w' ∧ Good φ H' K w' ∧ Went K w w' := by
  unfold doStore at h
  split at h
  · rename_i b o
    cases ha with
    | ptr _ _ L hL =>
      split at h
      · rename_i cs i hb hi
        split at h
        · rename_i hc
          simp only [Bool.and_eq_true, beq_iff_eq, decide_eq_true_eq] at hc
          obtain ⟨⟨⟨hf, hlen⟩, h1⟩, hfit⟩ := hc
          have hr := hx.cells' hf
          have hlen' : x'.cells.size = i.size := by have := hr.length; simp at this hlen; omega
          have hrun : ∀ (r : Result Unit) (w' : World), (storeCells ⟨L.blk, L.off + o, none⟩ x'.cells.toList).run P w = r → (Instr.storeAt t (.pointer (some ⟨L.blk, L.off + o, none⟩)) x').run P w = r := by
            intro r w' hr
            simp only [Instr.storeAt, Instr.sureAddr, storeVar]
            simp [run_sizeOf hi, hlen', hr]
          split at h
          · rename_i he
            cases h
            have hnil : x'.cells.toList = [] := by
              have := hr.length
              simp at he
              simp [he] at this
              simpa using this.symm
            refine ⟨w, hrun _ w (by rw [hnil]; rfl), g, Went.refl _ _⟩
          · rename_i he
            cases h
            obtain ⟨w', hw, hg, ht⟩ := g.write P hb hL o hfit h1 hr (by simpa using he)
            exact ⟨w', hrun _ w' hw, hg, ht⟩
        · cases h
      · cases h
  · cases h

/-- A new variable. -/
theorem newVar_ok (g : Good φ H K w) {n : Nat} (hn : φ n = none) {v v' : Value} (hv : VRel φ v v') (hf : flatV v = true) (t : TypeId) :
    ∃ φ', (newVar t v').run P w = .ok ⟨w.heap.size, 0, none⟩ (w.alloc (.cells v'.cells t)) ∧ Ext φ φ' n (n + 1) ∧ Good φ' ((n, .cells v.cells.toList false) :: H) K (w.alloc (.cells v'.cells t)) ∧
      VRel φ' (.pointer (some ⟨n, 0, none⟩)) (.pointer (some ⟨w.heap.size, 0, none⟩)) := by
  have hr := hv.cells' hf
  have hg := g.make hn hr t v'.cells.toList.length [] (by simp)
  simp only [List.append_nil, Array.toArray_toList] at hg
  refine ⟨_, by simp [newVar, newRow], Ext.put hn _, hg, ?_⟩
  have := VRel.ptr (φ := φ.put n ⟨w.heap.size, 0, v'.cells.toList.length⟩) n 0 _ (Ren.put_same _ _ _)
  simpa using this
end Go.En
/- The engine, part D: addresses, slices, structs built and taken apart. -/
namespace Go.En
set_option linter.unusedVariables false
variable {P : Program} {φ : Ren} {H : Hp} {K : Nat → Prop} {w : World}

def doFieldAddr (P : Program) (s : TypeId) (f : Nat) : Value → Option Value
  | .pointer (some ⟨b, o, none⟩) =>
    match P.underlying s with
    | some (.struct fields) =>
      match fields[f]? with
      | some fl => match P.info? fl.type with
        | some i => if i.size = 0 then none else some (.pointer (some ⟨b, o + fl.offset, none⟩))
        | none => none
      | none => none
    | _ => none
  | _ => none
theorem doFieldAddr_ok {s : TypeId} {f : Nat} {a a' v : Value} (h : doFieldAddr P s f a = some v) (ha : VRel φ a a') (w : World) :
    ∃ v', (Instr.fieldAt s a' f).run P w = .ok v' w ∧ VRel φ v v' := by
  unfold doFieldAddr at h
  split at h
  · rename_i b o
    cases ha with
    | ptr _ _ L hL =>
      split at h
      · rename_i fields hu
        split at h
        · rename_i fl hf
          split at h
          · rename_i i hi
            split at h
            · cases h
            · rename_i hz
              cases h
              refine ⟨_, ?_, .ptr b (o + fl.offset) L hL⟩
              simp [Instr.fieldAt, run_underlying hu, hf, Instr.sureAddr, fieldPlace, run_sizeOf hi, hz, Addr.add_none, Nat.add_assoc]
          · cases h
        · cases h
      · cases h
  · cases h

/-- An index within bounds. -/
def idx (i : Value) (n : Nat) : Option Nat :=
  match i with
  | .int _ i => if 0 ≤ i ∧ i < n then some i.toNat else none
  | _ => none

def doIndexAddr (P : Program) (t : TypeId) (x i : Value) : Option Value :=
  match P.underlying t, x with
  | some (.slice e), .slice (some ⟨b, o, none⟩) n _ =>
    match idx i n, P.info? e with
    | some j, some inf => some (.pointer (some ⟨b, o + j * inf.size, none⟩))
    | _, _ => none
  | some (.array n e), .pointer (some ⟨b, o, none⟩) =>
    match idx i n, P.info? e with
    | some j, some inf => some (.pointer (some ⟨b, o + j * inf.size, none⟩))
    | _, _ => none
  | _, _ => none

theorem idx_some {i : Value} {n j : Nat} (h : idx i n = some j) : ∃ k z, i = .int k z ∧ 0 ≤ z ∧ z < n ∧ j = z.toNat := by
  unfold idx at h
  split at h
  · rename_i k z
    split at h
    · rename_i hb; cases h; exact ⟨k, z, rfl, hb.1, hb.2, rfl⟩
    · cases h
  · cases h

theorem doIndexAddr_ok {t : TypeId} {x x' i i' v : Value} (h : doIndexAddr P t x i = some v) (hx : VRel φ x x') (hi : VRel φ i i') (w : World) :
    ∃ v', (Instr.indexAt t x' i').run P w = .ok v' w ∧ VRel φ v v' := by
  unfold doIndexAddr at h
  split at h
  · rename_i e b o n c hu
    split at h
    · rename_i j inf hj hinf
      cases h
      obtain ⟨k, z, rfl, h0, h1, rfl⟩ := idx_some hj
      cases hi
      cases hx with
      | sl _ _ _ _ L hL hc =>
        refine ⟨_, ?_, .ptr b (o + z.toNat * inf.size) L hL⟩
        simp [Instr.indexAt, asIntOf, run_underlying hu, h0, h1, run_sizeOf hinf, Addr.add_none, Nat.add_assoc]
      | slO _ _ _ _ c' L hL hc hn hl =>
        refine ⟨_, ?_, .ptr b (o + z.toNat * inf.size) L hL⟩
        simp [Instr.indexAt, asIntOf, run_underlying hu, h0, h1, run_sizeOf hinf, Addr.add_none, Nat.add_assoc]
      | slE => omega
    · cases h
  · rename_i n e b o hu
    split at h
    · rename_i j inf hj hinf
      cases h
      obtain ⟨k, z, rfl, h0, h1, rfl⟩ := idx_some hj
      cases hi
      cases hx with
      | ptr _ _ L hL =>
        refine ⟨_, ?_, .ptr b (o + z.toNat * inf.size) L hL⟩
        simp [Instr.indexAt, asIntOf, run_underlying hu, Instr.sureAddr, h0, h1, run_sizeOf hinf, Addr.add_none, Nat.add_assoc]
    · cases h
  · cases h

/-- A bound of a slice expression. -/
def bnd (i : Value) (y : Nat) : Option Nat :=
  match i with
  | .int _ i => if 0 ≤ i ∧ i ≤ y then some i.toNat else none
  | _ => none
theorem bnd_run {i i' : Value} {y y' l : Nat} (h : bnd i y = some l) (hi : VRel φ i i') (hy : y ≤ y') (code : BoundsCode) (w : World) :
    (Instr.sliceBound i' y' code).run P w = .ok l w ∧ l ≤ y := by
  unfold bnd at h
  split at h
  · rename_i k z
    split at h
    · rename_i hb
      cases h
      cases hi
      have : z ≤ y' := by omega
      exact ⟨by simp [Instr.sliceBound, asIntOf, hb.1, this], by omega⟩
    · cases h
  · cases h

def lowB (v : Option Value) (h : Nat) : Option Nat :=
  match v with
  | none => some 0
  | some v => bnd v h
def highB (v : Option Value) (len cap : Nat) : Option Nat :=
  match v with
  | none => if len ≤ cap then some len else none
  | some v => bnd v cap
/-- The bounds of a slice expression: len, the capacity that is sure. -/
def bnds (len cap : Nat) (low high max : Option Value) : Option (Nat × Nat × Option Nat) :=
  match max with
  | some m => match high with
    | some h => (bnd m cap).bind fun m => (bnd h m).bind fun h => (lowB low h).bind fun l => some (l, h, some m)
    | none => none
  | none => (highB high len cap).bind fun h => (lowB low h).bind fun l => some (l, h, none)

def ORel (φ : Ren) : Option Value → Option Value → Prop
  | none, none => True
  | some v, some v' => VRel φ v v'
  | _, _ => False

theorem lowB_run {low low' : Option Value} {h l : Nat} (hl : lowB low h = some l) (h1 : ORel φ low low') (w : World) :
    ((low' = none ∧ l = 0) ∨ ∃ v, low' = some v ∧ ∀ code, (Instr.sliceBound v h code).run P w = .ok l w) ∧ l ≤ h := by
  cases low <;> cases low' <;> simp only [lowB, ORel] at hl h1
  · cases hl; exact ⟨.inl ⟨rfl, rfl⟩, Nat.zero_le _⟩
  · exact ⟨.inr ⟨_, rfl, fun code => (bnd_run hl h1 (Nat.le_refl _) code w).1⟩, (bnd_run (P := P) hl h1 (Nat.le_refl _) .index w).2⟩

theorem bnds_run {len cap cap' l h : Nat} {m : Option Nat} {low high max low' high' max' : Option Value} (hb : bnds len cap low high max = some (l, h, m))
    (h1 : ORel φ low low') (h2 : ORel φ high high') (h3 : ORel φ max max') (hc : cap ≤ cap') (b : Bool) (w : World) :
    (Instr.sliceBounds b len cap' low' high' max').run P w = .ok (l, h, m.getD cap') w ∧ l ≤ h ∧ h ≤ m.getD cap ∧ m.getD cap ≤ cap := by
  unfold bnds at hb
  cases max with
  | some m0 =>
    cases high with
    | none => cases hb
    | some h0 =>
      cases max' with
      | none => exact h3.elim
      | some m' =>
        cases high' with
        | none => exact h2.elim
        | some hh' =>
          simp only [Option.bind_eq_some_iff] at hb
          obtain ⟨m1, hm1, h1', hh1, l1, hl1, he⟩ := hb
          cases he
          have e1 := fun code => bnd_run (P := P) hm1 h3 hc code w
          have e2 := fun code => bnd_run (P := P) hh1 h2 (Nat.le_refl _) code w
          have e3 := lowB_run (P := P) hl1 h1 w
          refine ⟨?_, e3.2, (e2 .index).2, (e1 .index).2⟩
          rcases e3.1 with ⟨rfl, rfl⟩ | ⟨v, rfl, e4⟩
          · simp [Instr.sliceBounds, (e1 _).1, (e2 _).1]
          · simp [Instr.sliceBounds, (e1 _).1, (e2 _).1, e4]
  | none =>
    cases max' with
    | some _ => exact h3.elim
    | none =>
      simp only [Option.bind_eq_some_iff] at hb
      obtain ⟨hh, hhe, l1, hl1, he⟩ := hb
      cases he
      have e3 := lowB_run (P := P) hl1 h1 w
      cases high with
      | none =>
        cases high' with
        | some _ => exact h2.elim
        | none =>
          simp only [highB] at hhe
          split at hhe
          · cases hhe
            refine ⟨?_, e3.2, by simpa using ‹_›, Nat.le_refl _⟩
            rcases e3.1 with ⟨rfl, rfl⟩ | ⟨v, rfl, e4⟩
            · simp [Instr.sliceBounds]
            · simp [Instr.sliceBounds, e4]
          · cases hhe
      | some h0 =>
        cases high' with
        | none => exact h2.elim
        | some hh' =>
          have e2 := fun code => bnd_run (P := P) hhe h2 hc code w
          refine ⟨?_, e3.2, by simpa using (e2 .index).2, Nat.le_refl _⟩
          rcases e3.1 with ⟨rfl, rfl⟩ | ⟨v, rfl, e4⟩
          · simp [Instr.sliceBounds, (e2 _).1]
          · simp [Instr.sliceBounds, (e2 _).1, e4]

/-- A slice expression on a slice, or on an array behind a pointer. -/
def doSlice (P : Program) (t : TypeId) (x : Value) (low high max : Option Value) : Option Value :=
  match P.underlying t, x with
  | some (.slice e), .slice (some ⟨b, o, none⟩) n c =>
    match P.info? e with
    | none => none
    | some inf =>
      if c < openCap then
        match bnds n c low high max with
        | some (l, h, m) => some (.slice (some (if m.getD c = l then ⟨b, o, none⟩ else ⟨b, o + l * inf.size, none⟩)) (h - l) (m.getD c - l))
        | none => none
      else
        if c - openCap = inf.size ∧ n < openCap then
          match bnds n n low high max with
          | some (l, h, some m) => if m = l then some (.slice (some ⟨b, o + l * inf.size, none⟩) 0 c) else some (.slice (some ⟨b, o + l * inf.size, none⟩) (h - l) (m - l))
          | some (l, h, none) => some (.slice (some ⟨b, o + l * inf.size, none⟩) (h - l) c)
          | none => none
        else none
  | some (.slice e), .slice none n c =>
    match P.info? e with
    | none => none
    | some inf => match bnds n c low high max with
      | some (l, h, m) => some (.slice none (h - l) (m.getD c - l))
      | none => none
  | some (.array n e), .pointer (some ⟨b, o, none⟩) =>
    match P.info? e with
    | none => none
    | some inf =>
      if n < openCap then
        match bnds n n low high max with
        | some (l, h, m) => some (.slice (some (if m.getD n = l then ⟨b, o, none⟩ else ⟨b, o + l * inf.size, none⟩)) (h - l) (m.getD n - l))
        | none => none
      else none
  | some .string, .string s => if (low.all av) && (high.all av) && (max.all av) then sc P (Instr.sliceAt t (.string s) low high max) else none
  | _, _ => none

theorem orel_av {x x' : Option Value} (h : x.all av = true) (hr : ORel φ x x') : x' = x := by
  cases x <;> cases x' <;> simp only [ORel] at hr
  · rfl
  · rw [av_eq (by simpa using h) hr]

theorem doSlice_ok {t : TypeId} {x x' v : Value} {low high max low' high' max' : Option Value} (h : doSlice P t x low high max = some v) (hx : VRel φ x x')
    (h1 : ORel φ low low') (h2 : ORel φ high high') (h3 : ORel φ max max') (w : World) : ∃ v', (Instr.sliceAt t x' low' high' max').run P w = .ok v' w ∧ VRel φ v v' := by
  unfold doSlice at h
  split at h
  · rename_i e b o n c hu
    split at h
    · cases h
    · rename_i inf hi
      split at h
      · rename_i hc
        split at h
        · rename_i l h' m hb
          cases h
          cases hx with
          | sl _ _ _ _ L hL _ =>
            have e1 := bnds_run (P := P) hb h1 h2 h3 (Nat.le_refl _) true w
            refine ⟨.slice (some (if m.getD c = l then ⟨L.blk, L.off + o, none⟩ else ⟨L.blk, L.off + o + l * inf.size, none⟩)) (h' - l) (m.getD c - l), ?_, ?_⟩
            · simp only [Instr.sliceAt, Sem.run_bind, run_underlying hu, Result.andThen_ok, Instr.slice, e1.1, run_sizeOf hi, Sem.run_pure, Option.map_some, Addr.add_none]
              split <;> rfl
            · have hcap : m.getD c - l < openCap := by omega
              split
              · exact .sl b o _ _ L hL hcap
              · rw [Nat.add_assoc]; exact .sl b _ _ _ L hL hcap
          | slO _ _ _ _ c' L hL hc' => omega
          | slE => omega
        · cases h
      · rename_i hc
        split at h
        · rename_i hes'
          obtain ⟨hes, hno⟩ := hes'
          have key : ∀ (l h' : Nat) (m : Option Nat), bnds n n low high max = some (l, h', m) → ∃ a'' c', (Instr.sliceAt t x' low' high' max').run P w = .ok (.slice (some a'') (h' - l) (m.getD c' - l)) w ∧
              ((∃ L, φ b = some L ∧ n ≤ c' ∧ L.off + o + c' * (c - openCap) = L.lim ∧ a'' = if m.getD c' = l then ⟨L.blk, L.off + o, none⟩ else ⟨L.blk, L.off + o + l * inf.size, none⟩) ∨ (n = 0 ∧ c' = 0 ∧ ∃ L, φ b = some L)) ∧ l ≤ h' ∧ h' ≤ m.getD n ∧ m.getD n ≤ n := by
            intro l h' m hb
            cases hx with
            | sl _ _ _ _ L hL hc' => omega
            | slO _ _ _ _ c' L hL hc' hn hl =>
              have e1 := bnds_run (P := P) hb h1 h2 h3 hn true w
              refine ⟨if m.getD c' = l then ⟨L.blk, L.off + o, none⟩ else ⟨L.blk, L.off + o + l * inf.size, none⟩, c', ?_, .inl ⟨L, hL, hn, hl, rfl⟩, e1.2⟩
              simp only [Instr.sliceAt, Sem.run_bind, run_underlying hu, Result.andThen_ok, Instr.slice, e1.1, run_sizeOf hi, Sem.run_pure, Option.map_some, Addr.add_none]
              split <;> rfl
            | slE _ _ _ a' L hL _ =>
              have e1 := bnds_run (P := P) hb h1 h2 h3 (Nat.le_refl _) true w
              have em : m.getD 0 = l := by omega
              refine ⟨a', 0, ?_, .inr ⟨rfl, rfl, L, hL⟩, e1.2⟩
              simp only [Instr.sliceAt, Sem.run_bind, run_underlying hu, Result.andThen_ok, Instr.slice, e1.1, run_sizeOf hi, Sem.run_pure, Option.map_some, em, if_true]
          split at h
          · rename_i l h' m hb
            obtain ⟨a'', c', hrun, hcase, hlh, hhm, hmn⟩ := key _ _ _ hb
            simp only [Option.getD_some] at hrun hhm hmn hcase
            refine ⟨_, hrun, ?_⟩
            split at h
            · rename_i hml
              cases h
              subst hml
              have e0 : h' - m = 0 := by omega
              rw [e0, Nat.sub_self]
              rcases hcase with ⟨L, hL, _⟩ | ⟨_, _, L, hL⟩
              · exact .slE b _ c a'' L hL (by omega)
              · exact .slE b _ c a'' L hL (by omega)
            · rename_i hml
              cases h
              rcases hcase with ⟨L, hL, hn, hl, rfl⟩ | ⟨hn, _, L, hL⟩
              · rw [if_neg hml, Nat.add_assoc]
                exact .sl b _ _ _ L hL (by omega)
              · omega
          · rename_i l h' hb
            cases h
            obtain ⟨a'', c', hrun, hcase, hlh, hhm, hmn⟩ := key _ _ _ hb
            simp only [Option.getD_none] at hrun hhm hmn hcase
            refine ⟨_, hrun, ?_⟩
            rcases hcase with ⟨L, hL, hn, hl, rfl⟩ | ⟨hn, hc0, L, hL⟩
            · by_cases hcl : c' = l
              · subst hcl
                have e0 : h' - c' = 0 := by omega
                rw [e0, Nat.sub_self]
                exact .slE b _ c _ L hL (by omega)
              · rw [if_neg hcl, Nat.add_assoc]
                refine .slO b _ _ c _ L hL (by omega) (by omega) ?_
                rw [hes] at hl ⊢
                rw [Nat.sub_mul]
                have : l * inf.size ≤ c' * inf.size := Nat.mul_le_mul_right _ (by omega)
                omega
            · subst hc0
              have e0 : h' - l = 0 := by omega
              have e1 : 0 - l = 0 := by omega
              rw [e0, e1]
              exact .slE b _ c a'' L hL (by omega)
          · cases h
        · cases h
  · rename_i e n c hu
    split at h
    · cases h
    · rename_i inf hi
      split at h
      · rename_i l h' m hb
        cases h
        cases hx
        have e1 := bnds_run (P := P) hb h1 h2 h3 (Nat.le_refl _) true w
        refine ⟨.slice none (h' - l) (m.getD c - l), ?_, .slN _ _⟩
        simp only [Instr.sliceAt, Sem.run_bind, run_underlying hu, Result.andThen_ok, Instr.slice, e1.1, run_sizeOf hi, Sem.run_pure, Option.map_none]
        split <;> rfl
      · cases h
  · rename_i n e b o hu
    split at h
    · cases h
    · rename_i inf hi
      split at h
      · rename_i hc
        split at h
        · rename_i l h' m hb
          cases h
          cases hx with
          | ptr _ _ L hL =>
            have e1 := bnds_run (P := P) hb h1 h2 h3 (Nat.le_refl _) false w
            refine ⟨.slice (some (if m.getD n = l then ⟨L.blk, L.off + o, none⟩ else ⟨L.blk, L.off + o + l * inf.size, none⟩)) (h' - l) (m.getD n - l), ?_, ?_⟩
            · simp only [Instr.sliceAt, Sem.run_bind, run_underlying hu, Result.andThen_ok, Instr.sureAddr, e1.1, run_sizeOf hi, Sem.run_pure, Addr.add_none]
            · have hcap : m.getD n - l < openCap := by omega
              split
              · exact .sl b o _ _ L hL hcap
              · rw [Nat.add_assoc]; exact .sl b _ _ _ L hL hcap
        · cases h
      · cases h
  · rename_i s hu
    split at h
    · rename_i hav
      simp only [Bool.and_eq_true] at hav
      cases hx
      rw [orel_av hav.1.1 h1, orel_av hav.1.2 h2, orel_av hav.2 h3]
      exact ⟨v, sc_run h w⟩
    · cases h
  · cases h
end Go.En
/- The engine, part E: append, copy, make, structs built and taken apart. -/
namespace Go.En
set_option linter.unusedVariables false
variable {P : Program} {φ : Ren} {H : Hp} {K : Nat → Prop} {w : World}

/-- The first m elements of a slice, as cells. -/
def srcCells (H : Hp) (size : Nat) : Value → Option (Nat × List Value)
  | .slice none n _ => if n = 0 then some (0, []) else none
  | .slice (some ⟨b, o, none⟩) n _ =>
    if n = 0 then some (0, []) else
    match H.get b with
    | some (.cells cs _) => if o + n * size ≤ cs.length then some (n, (cs.drop o).take (n * size)) else none
    | _ => none
  | _ => none

theorem srcCells_ok (g : Good φ H K w) {size : Nat} {x x' : Value} {m : Nat} {news : List Value} (h : srcCells H size x = some (m, news)) (hx : VRel φ x x') :
    ∃ a' c' us, x' = .slice a' m c' ∧ us.length = m * size ∧ LRel φ news us ∧ (m = 0 → us = []) ∧ (a' = none → m = 0) ∧ (∀ a, a' = some a → ∀ (j : Nat) v, us[j]? = some v → w.cell? (a.add j) = some v) := by
  unfold srcCells at h
  split at h
  · split at h
    · rename_i hn
      cases h
      cases hx
      exact ⟨none, _, [], by rw [hn], by simp, trivial, fun _ => rfl, fun _ => rfl, fun a ha => by cases ha⟩
    · cases h
  · rename_i b o n c
    split at h
    · rename_i hn
      cases h
      subst hn
      cases hx with
      | sl _ _ _ _ L hL hc => exact ⟨_, _, [], rfl, by simp, trivial, fun _ => rfl, fun _ => rfl, fun a ha j v hv => by simp at hv⟩
      | slO _ _ _ _ c' L hL hc hn hl => exact ⟨_, _, [], rfl, by simp, trivial, fun _ => rfl, fun _ => rfl, fun a ha j v hv => by simp at hv⟩
      | slE _ _ _ a' L hL hc => exact ⟨_, _, [], rfl, by simp, trivial, fun _ => rfl, fun _ => rfl, fun a ha j v hv => by simp at hv⟩
    · rename_i hn
      split at h
      · rename_i cs ro hb
        split at h
        · rename_i hfit
          simp only [Option.some.injEq, Prod.mk.injEq] at h
          obtain ⟨rfl, rfl⟩ := h
          have key : ∀ (L : Loc), φ b = some L → ∃ us : List Value, us.length = n * size ∧ LRel φ ((cs.drop o).take (n * size)) us ∧ (n = 0 → us = []) ∧ ((some ⟨L.blk, L.off + o, none⟩ : Option Addr) = none → n = 0) ∧
              (∀ a : Addr, some ⟨L.blk, L.off + o, none⟩ = some a → ∀ (j : Nat) v, us[j]? = some v → w.cell? (a.add j) = some v) := by
            intro L hL
            obtain ⟨us, h1, h2, h3⟩ := g.read hb hL o (n * size) hfit
            refine ⟨us, h1, h3, fun h0 => absurd h0 hn, (fun h0 => by cases h0), fun a ha j v hv => ?_⟩
            cases ha
            rw [Addr.add_none]; exact h2 j v hv
          cases hx with
          | sl _ _ _ _ L hL hc =>
            obtain ⟨us, h1, h2, h3, h4, h5⟩ := key L hL
            exact ⟨_, _, us, rfl, h1, h2, h3, h4, h5⟩
          | slO _ _ _ _ c' L hL hc hn hl =>
            obtain ⟨us, h1, h2, h3, h4, h5⟩ := key L hL
            exact ⟨_, _, us, rfl, h1, h2, h3, h4, h5⟩
          | slE => exact absurd rfl hn
        · cases h
      · cases h
  · cases h

/-- Appending a slice to a slice. -/
def doAppend (P : Program) (H : Hp) (nx : Nat) (t : TypeId) (s x : Value) : Option (Value × Hp × Nat) :=
  match P.underlying t with
  | some (.slice e) =>
    match P.info? e with
    | some i =>
      match i.zero, srcCells H i.size x with
      | some z, some (m, news) =>
        if z.cells.size = i.size ∧ 0 < i.size then
          match s with
          | .slice none n c =>
            if n = 0 ∧ c = 0 then
              (if m = 0 then some (s, H, nx + 1) else if m ≤ maxLen ∧ m * i.bytes ≤ 140737488355328 then some (.slice (some ⟨nx, 0, none⟩) m (openCap + i.size), (nx, .cells news false) :: H, nx + 1) else none)
            else none
          | .slice (some ⟨b, o, none⟩) n c =>
            if m = 0 then (if n ≤ c then some (s, H, nx + 1) else none) else
            match srcCells H i.size s with
            | some (_, olds) =>
              if n + m ≤ maxLen ∧ (n + m) * i.bytes ≤ 140737488355328 ∧ (openCap ≤ c → c - openCap = i.size) then
                (if c < n + m then some (.slice (some ⟨nx, 0, none⟩) (n + m) (openCap + i.size), (nx, .cells (olds ++ news) false) :: H, nx + 1)
                 else if openCap ≤ c then
                   match H.get b with
                   | some (.cells _ false) => if oneL news then some (.slice (some ⟨nx, 0, none⟩) (n + m) (openCap + i.size), (nx, .cells (olds ++ news) false) :: H.del b, nx + 1) else none
                   | _ => none
                 else match H.get b with
                   | some (.cells cs false) => if oneL news ∧ o + (n + m) * i.size ≤ cs.length then some (.slice (some ⟨b, o, none⟩) (n + m) c, H.set b (.cells (spl cs (o + n * i.size) news) false), nx + 1) else none
                   | _ => none)
              else none
            | none => none
          | _ => none
        else none
      | _, _ => none
    | none => none
  | _ => none

theorem run_append_zero {t ty e : TypeId} {i : TypeInfo} (ht : P.underlying t = some (.slice e)) (hi : P.info? e = some i) (b : Option Addr) (n c : Nat) (hn : n ≤ c) (a : Option Addr) (c' : Nat) (w : World) :
    (Builtin.append_ #[t, t] ty #[.slice b n c, .slice a 0 c']).run P w = .ok (.slice b n c) w := by
  cases a <;> cases b <;> simp [Builtin.append_, run_underlying ht, sizeOf, typeInfo, hi, Builtin.lenOf, hn, Builtin.firstCells, loadCells, loadCellsFrom, storeCells]

/-- In place. -/
theorem run_append_room' {t ty e : TypeId} {i : TypeInfo} (ht : P.underlying t = some (.slice e)) (hi : P.info? e = some i)
    (b o sLen sCap : Nat) (a : Addr) (m c : Nat) (news : List Value) (hl : news.length = m * i.size) (hnews : ∀ (j : Nat) u, news[j]? = some u → w.cell? (a.add j) = some u)
    (hroom : sLen + m ≤ sCap) {w' : World} (hst : (storeCells ⟨b, o + sLen * i.size, none⟩ news).run P w = .ok () w') :
    (Builtin.append_ #[t, t] ty #[.slice (some ⟨b, o, none⟩) sLen sCap, .slice (some a) m c]).run P w = .ok (.slice (some ⟨b, o, none⟩) (sLen + m) sCap) w' := by
  have hf := run_firstCells_some (P := P) w i.size m a m c news hl hnews
  simp [Builtin.append_, run_underlying ht, sizeOf, typeInfo, hi, Builtin.lenOf, hroom, hf, Addr.add_none, hst]

/-- A new row, of unknown capacity. -/
theorem grown_ok (g : Good φ H K w) {n : Nat} (hn : φ n = none) {cs us : List Value} (hr : LRel φ cs us) (e : TypeId) (z : Array Value) (len cap size : Nat) (hz : z.size = size) (hl : us.length = len * size) (hc : len ≤ cap) :
    ∃ φ', Ext φ φ' n (n + 1) ∧ Good φ' ((n, .cells cs false) :: H) K (w.drew.alloc (.cells (us.toArray ++ Builtin.zeroCells z (cap - len)) e)) ∧
      VRel φ' (.slice (some ⟨n, 0, none⟩) len (openCap + size)) (.slice (some ⟨w.heap.size, 0, none⟩) len cap) ∧ Went K w (w.drew.alloc (.cells (us.toArray ++ Builtin.zeroCells z (cap - len)) e)) := by
  have e1 : (us.toArray ++ Builtin.zeroCells z (cap - len)) = (us ++ (Builtin.zeroCells z (cap - len)).toList).toArray := by
    apply Array.ext'; simp
  have hsz : (Builtin.zeroCells z (cap - len)).toList.length = (cap - len) * size := by rw [Array.length_toList, size_zeroCells, hz]
  have htot : us.length + (Builtin.zeroCells z (cap - len)).toList.length = cap * size := by
    rw [hl, hsz, ← Nat.add_mul]; congr 1; omega
  have hg := g.drew.make hn hr e (cap * size) (Builtin.zeroCells z (cap - len)).toList (by omega)
  rw [e1]
  refine ⟨_, Ext.put hn _, hg, ?_, (Went.drew K w).trans (Went.alloc g.drew _)⟩
  have := VRel.slO (φ := φ.put n ⟨w.heap.size, 0, cap * size⟩) n 0 len (openCap + size) cap ⟨w.heap.size, 0, cap * size⟩ (Ren.put_same _ _ _) (by omega) hc (by simp)
  simpa using this

/-- In place, beyond an open slice's end: the old name is gone. -/
theorem inplace_ok (P : Program) (g : Good φ H K w) {nx : Nat} (hfr : φ nx = none) {b o n m c' size : Nat} {bcs olds os news us : List Value} {L : Loc} (hb : H.get b = some (.cells bcs false)) (hL : φ b = some L)
    (hl : L.off + o + c' * size = L.lim) (hroom : n + m ≤ c') (hol : os.length = n * size) (hor : LRel φ olds os) (hoc : ∀ (j : Nat) v, os[j]? = some v → w.cell? ⟨L.blk, L.off + o + j, none⟩ = some v)
    (hul : us.length = m * size) (hur : LRel φ news us) (h1 : oneL news = true) :
    ∃ w' φ', (storeCells ⟨L.blk, L.off + o + n * size, none⟩ us).run P w = .ok () w' ∧ VRel φ' (.slice (some ⟨nx, 0, none⟩) (n + m) (openCap + size)) (.slice (some ⟨L.blk, L.off + o, none⟩) (n + m) c') ∧
      Ext φ φ' nx (nx + 1) ∧ Good φ' ((nx, .cells (olds ++ news) false) :: H.del b) K w' ∧ Went K w w' := by
  obtain ⟨arr, el, fr, h2, h3, h4⟩ := g.at hb hL
  obtain ⟨rfl, hlim⟩ := h4 rfl
  have hfit : (n + m) * size ≤ c' * size := Nat.mul_le_mul_right _ hroom
  have hnm : (n + m) * size = n * size + m * size := Nat.add_mul _ _ _
  have hst := run_storeCells_at P L.blk (L.off + o + n * size) el us 0 arr w h2 (by omega) (oneL_mem h1 hur)
  have hle := Ren.put_le hfr ⟨L.blk, L.off + o, L.lim⟩
  have hoth : ∀ d k M, H.get d = some k → d ≠ b → φ d = some M → M.blk ≠ L.blk := fun d k M hd hne hM e => g.sep b d _ k L M hb hd (fun e => hne e.symm) rfl hL hM e.symm
  have getd : ∀ d, Hp.get ((nx, Blk.cells (olds ++ news) false) :: H.del b) d = if d = nx then some (.cells (olds ++ news) false) else if d = b then none else H.get d := by
    intro d
    by_cases h : d = nx
    · subst h; simp [Hp.get]
    · have : ¬ nx = d := fun e => h e.symm
      simp [Hp.get, h, this, Hp.get_del]
  refine ⟨_, φ.put nx ⟨L.blk, L.off + o, L.lim⟩, hst, ?_, Ext.put hfr _, ?_, ?_⟩
  · have := VRel.slO (φ := φ.put nx ⟨L.blk, L.off + o, L.lim⟩) nx 0 (n + m) (openCap + size) c' ⟨L.blk, L.off + o, L.lim⟩ (Ren.put_same _ _ _) (by omega) hroom (by simp; omega)
    simpa using this
  · refine ⟨fun d k hd => ?_, fun d d' k k' M M' hd hd' hne hk hM hM' => ?_, fun d k M hd hk hM => ?_, fun c hc => by rw [setRow_size]; exact g.kin c hc⟩
    · rw [getd] at hd
      by_cases hdn : d = nx
      · subst hdn
        simp at hd
        subst hd
        refine ⟨_, Ren.put_same _ _ _, _, el, (0, 0), setRow_heap w L.blk arr _ el _ h2, fun j v hv => ?_, fun _ => ⟨rfl, ?_⟩⟩
        · change ∃ v', (spl arr.toList (L.off + o + n * size) us).toArray[L.off + o + j]? = some v' ∧ _
          rw [List.getElem?_toArray, spl_get _ _ _ (by simp; omega)]
          have hll := hor.length
          by_cases hj : j < n * size
          · rw [List.getElem?_append_left (by omega)] at hv
            obtain ⟨u, hu1, hu2⟩ := hor.get hv
            have := hoc j u hu1
            simp only [World.cell?, h2] at this
            have h7 : L.off + o + j < L.off + o + n * size := by omega
            simp only [h7, if_true]
            exact ⟨u, by simpa using this, hu2.mono hle⟩
          · rw [List.getElem?_append_right (by omega)] at hv
            obtain ⟨u, hu1, hu2⟩ := hur.get hv
            have hj2 := (List.getElem?_eq_some_iff.1 hu1).1
            have h7 : ¬ L.off + o + j < L.off + o + n * size := by omega
            have h8 : L.off + o + j < L.off + o + n * size + us.length := by omega
            have h9 : L.off + o + j - (L.off + o + n * size) = j - olds.length := by omega
            simp only [h7, h8, h9, if_true, if_false]
            exact ⟨u, hu1, hu2.mono hle⟩
        · simp only [List.size_toArray, List.length_append, List.length_take, List.length_drop, Array.length_toList]; omega
      · simp [hdn] at hd
        obtain ⟨hdb, hd⟩ := hd
        obtain ⟨M, hM, hr⟩ := g.rel d k hd
        refine ⟨M, by rw [Ren.put_other _ _ hdn]; exact hM, (hr.congr ?_).mono hle⟩
        exact setRow_other w L.blk _ _ (hoth d k M hd hdb hM)
    · rw [getd] at hd hd'
      by_cases hdn : d = nx
      · subst hdn
        have hdn' : ¬ d' = d := fun e => hne e.symm
        simp [hdn'] at hd'
        rw [Ren.put_same] at hM; cases hM
        rw [Ren.put_other _ _ hdn'] at hM'
        exact fun e => hoth d' k' M' hd'.2 hd'.1 hM' e.symm
      · simp [hdn] at hd
        rw [Ren.put_other _ _ hdn] at hM
        by_cases hdn' : d' = nx
        · subst hdn'
          rw [Ren.put_same] at hM'; cases hM'
          exact hoth d k M hd.2 hd.1 hM
        · simp [hdn'] at hd'
          rw [Ren.put_other _ _ hdn'] at hM'
          exact g.sep d d' k k' M M' hd.2 hd'.2 hne hk hM hM'
    · rw [getd] at hd
      by_cases hdn : d = nx
      · subst hdn
        rw [Ren.put_same] at hM; cases hM
        exact g.prot b _ L hb rfl hL
      · simp [hdn] at hd
        rw [Ren.put_other _ _ hdn] at hM
        exact g.prot d k M hd.2 hk hM
  · exact ⟨rfl, rfl, rfl, Nat.le_of_eq (setRow_size w L.blk _).symm, fun c hc => setRow_other w L.blk _ c (fun e => g.prot b _ L hb rfl hL (e ▸ hc))⟩

theorem sub_del {n b : Nat} {k : Blk} : ∀ d x, Hp.get ((n, k) :: H.del b) d = some x → Hp.get ((n, k) :: H) d = some x := by
  intro d x hd
  simp only [Hp.get] at hd ⊢
  split at hd
  · rename_i he; simp only [he]; exact hd
  · rename_i he
    simp only [he]
    rw [Hp.get_del] at hd
    split at hd
    · cases hd
    · exact hd

set_option maxHeartbeats 1000000 in
theorem doAppend_ok (g : Good φ H K w) {nx : Nat} (hfr : φ nx = none) {t ty : TypeId} {s x s' x' v : Value} {H' : Hp} {nx' : Nat} (h : doAppend P H nx t s x = some (v, H', nx')) (hs : VRel φ s s') (hx : VRel φ x x') :
    ∃ v' w' φ', (Builtin.append_ #[t, t] ty #[s', x']).run P w = .ok v' w' ∧ VRel φ' v v' ∧ Ext φ φ' nx nx' ∧ Good φ' H' K w' ∧ Went K w w' ∧ nx ≤ nx' := by
  unfold doAppend at h
  split at h
  case h_2 => cases h
  rename_i e hu
  split at h
  case h_2 => cases h
  rename_i i hi
  split at h
  case h_2 => cases h
  rename_i z m news hz hsrc
  split at h
  case isFalse => cases h
  rename_i hzs
  obtain ⟨hzs, hpos⟩ := hzs
  obtain ⟨ax, cx, us, rfl, hul, hur, hu0, hax, hcell⟩ := srcCells_ok g hsrc hx
  split at h
  · -- nil
    rename_i n c
    split at h
    case isFalse => cases h
    rename_i hnc
    obtain ⟨rfl, rfl⟩ := hnc
    cases hs
    split at h
    · rename_i hm
      cases h
      subst hm
      exact ⟨_, w, φ, run_append_zero hu hi _ _ _ (Nat.le_refl _) _ _ w, .slN _ _, Ext.refl _ _ _, g, Went.refl _ _, Nat.le_succ _⟩
    · rename_i hm
      split at h
      case isFalse => cases h
      rename_i hb
      cases h
      cases ax with
      | none => exact absurd (hax rfl) hm
      | some a =>
        have hrun := run_append_nil (P := P) w t ty e i z hu hi hz a m cx us hul (hcell a rfl) (by omega) (by have := hb.1; simp only [maxLen] at this; omega) (by omega)
        have hge := grownCap_ge w m 0 e
        obtain ⟨φ', h1, h2, h3, h4⟩ := grown_ok g hfr hur e z.cells m (grownCap w m 0 e) i.size hzs hul hge
        exact ⟨_, _, φ', hrun, h3, h1, h2, h4, Nat.le_succ _⟩
  · rename_i b o n c
    split at h
    · rename_i hm
      split at h
      case isFalse => cases h
      rename_i hnc
      cases h
      subst hm
      refine ⟨s', w, φ, ?_, hs, Ext.refl _ _ _, g, Went.refl _ _, Nat.le_succ _⟩
      cases hs with
      | sl _ _ _ _ L hL hc => exact run_append_zero hu hi _ _ _ hnc _ _ w
      | slO _ _ _ _ c' L hL hc hn hl => exact run_append_zero hu hi _ _ _ hn _ _ w
      | slE _ _ _ a' L hL hc => exact run_append_zero hu hi _ _ _ (Nat.le_refl _) _ _ w
    · rename_i hm
      split at h
      case h_2 => cases h
      rename_i m0 olds hso
      split at h
      case isFalse => cases h
      rename_i hbd
      obtain ⟨h63, hby, hes⟩ := hbd
      obtain ⟨as, cs', os, hse, hol, hor, ho0, has, hoc⟩ := srcCells_ok g hso hs
      have h63' : ((n + m : Nat) : Int) ≤ 9223372036854775807 := by simp only [maxLen] at h63; omega
      have hm0 : m0 = n := by cases hs <;> (cases hse; rfl)
      subst hm0
      cases ax with
      | none => exact absurd (hax rfl) hm
      | some a =>
        -- the growing way
        have grows : ∀ (bs : Addr) (cc : Nat), s' = .slice (some bs) m0 cc → cc < m0 + m → as = some bs → ∃ v' w' φ', (Builtin.append_ #[t, t] ty #[s', .slice (some a) m cx]).run P w = .ok v' w' ∧
            VRel φ' (.slice (some ⟨nx, 0, none⟩) (m0 + m) (openCap + i.size)) v' ∧ Ext φ φ' nx (nx + 1) ∧ Good φ' ((nx, .cells (olds ++ news) false) :: H) K w' ∧ Went K w w' := by
          intro bs cc hs' hcc hbs
          subst hs'
          have hrun := run_append_grow (P := P) w t ty e i z hu hi hz bs m0 cc os hol (hoc bs hbs) a m cx us hul (hcell a rfl) hcc h63' (growslice_fits hcc hby)
          have hge := grownCap_ge w (m0 + m) cc e
          obtain ⟨φ', h1, h2, h3, h4⟩ := grown_ok g hfr (hor.append hur) e z.cells (m0 + m) (grownCap w (m0 + m) cc e) i.size hzs (by rw [List.length_append, hol, hul, Nat.add_mul]) hge
          rw [show (os ++ us).toArray = os.toArray ++ us.toArray by apply Array.ext'; simp] at h2 h4
          exact ⟨_, _, φ', hrun, h3, h1, h2, h4⟩
        split at h
        · rename_i hcn
          cases h
          have hcl : c < openCap := by simp only [maxLen, openCap] at *; omega
          cases hs with
          | sl _ _ _ _ L hL hc =>
            obtain ⟨v', w', φ', h1, h2, h3, h4, h5⟩ := grows _ _ rfl hcn (by cases hse; rfl)
            exact ⟨v', w', φ', h1, h2, h3, h4, h5, Nat.le_succ _⟩
          | slO _ _ _ _ c' L hL hc hn hl => omega
          | slE _ _ _ a' L hL hc => omega
        · rename_i hcn
          split at h
          · rename_i hop
            split at h
            case h_2 => cases h
            rename_i bcs hb
            split at h
            case isFalse => cases h
            rename_i h1
            cases h
            cases hs with
            | sl _ _ _ _ L hL hc => omega
            | slE _ _ _ a' L hL hc =>
              obtain ⟨v', w', φ', h1, h2, h3, h4, h5⟩ := grows _ _ rfl (by omega) (by cases hse; rfl)
              exact ⟨v', w', φ', h1, h2, h3, h4.sub sub_del, h5, Nat.le_succ _⟩
            | slO _ _ _ _ c' L hL hc hn hl =>
              obtain rfl : as = some ⟨L.blk, L.off + o, none⟩ := by cases hse; rfl
              have hes' := hes hop
              rw [hes'] at hl
              by_cases hroom : m0 + m ≤ c'
              · obtain ⟨w', φ', h2, h3, h4, h5, h6⟩ := inplace_ok P g hfr hb hL hl hroom hol hor (fun j v hv => by have := hoc _ rfl j v hv; rwa [Addr.add_none] at this) hul hur h1
                exact ⟨_, w', φ', run_append_room' (P := P) (ty := ty) (w := w) hu hi L.blk (L.off + o) m0 c' a m cx us hul (hcell a rfl) hroom h2, h3, h4, h5, h6, Nat.le_succ _⟩
              · obtain ⟨v', w', φ', h1, h2, h3, h4, h5⟩ := grows _ _ rfl (by omega) rfl
                exact ⟨v', w', φ', h1, h2, h3, h4.sub sub_del, h5, Nat.le_succ _⟩
          · rename_i hop
            split at h
            case h_2 => cases h
            rename_i bcs hb
            split at h
            case isFalse => cases h
            rename_i hfit
            cases h
            cases hs with
            | slO _ _ _ _ c' L hL hc hn hl => omega
            | slE _ _ _ a' L hL hc => omega
            | sl _ _ _ _ L hL hc =>
              have hll := hur.length
              have hnm : (m0 + m) * i.size = m0 * i.size + m * i.size := Nat.add_mul _ _ _
              have hne : news ≠ [] := fun e => by
                rw [e] at hll
                have : 0 < m * i.size := Nat.mul_pos (by omega) hpos
                simp only [List.length_nil] at hll; omega
              obtain ⟨w', hst, hg, hw⟩ := g.write P hb hL (o + m0 * i.size) (by omega) hfit.1 hur hne
              rw [← Nat.add_assoc] at hst
              have hrun := run_append_room' (P := P) (ty := ty) (w := w) hu hi L.blk (L.off + o) m0 c a m cx us hul (hcell a rfl) (by omega) hst
              exact ⟨_, w', φ, hrun, .sl b o _ _ L hL hc, Ext.refl _ _ _, hg, hw, Nat.le_succ _⟩
  · cases h
end Go.En
/- The engine, part F: structs and arrays built and taken apart, slices made, copy. -/
namespace Go.En
set_option linter.unusedVariables false
variable {P : Program} {φ : Ren} {H : Hp} {K : Nat → Prop} {w : World}

def PRel (φ : Ren) : List (Nat × Value) → List (Nat × Value) → Prop
  | [], [] => True
  | x :: xs, y :: ys => y.1 = x.1 ∧ VRel φ x.2 y.2 ∧ PRel φ xs ys
  | _, _ => False

def flatP : List (Nat × Value) → Bool
  | [] => true
  | x :: xs => flatV x.2 && flatP xs

theorem foldl_set_rel : ∀ {xs ys : List Value} (k off : Nat) {cs ds : Array Value}, LRel φ xs ys → LRel φ cs.toList ds.toList →
    LRel φ ((xs.zipIdx k).foldl (fun (cs : Array Value) (p : Value × Nat) => cs.setIfInBounds (off + p.2) p.1) cs).toList ((ys.zipIdx k).foldl (fun (cs : Array Value) (p : Value × Nat) => cs.setIfInBounds (off + p.2) p.1) ds).toList
  | [], [], k, off, cs, ds, _, hc => by simpa using hc
  | x :: xs, y :: ys, k, off, cs, ds, h, hc => by
    simp only [List.zipIdx_cons, List.foldl_cons]
    refine foldl_set_rel (k + 1) off h.2 ?_
    simpa using hc.set h.1 (off + k)
  | [], _ :: _, _, _, _, _, h, _ => h.elim
  | _ :: _, [], _, _, _, _, h, _ => h.elim

theorem fill_rel (place : Nat → Option (Nat × Nat)) : ∀ {ps qs : List (Nat × Value)} {cs ds : Array Value} {out : Array Value}, PRel φ ps qs → flatP ps = true → LRel φ cs.toList ds.toList →
    Instr.fill place cs ps = some out → ∃ out', Instr.fill place ds qs = some out' ∧ LRel φ out.toList out'.toList
  | [], [], cs, ds, out, _, _, hc, h => by
    simp [Instr.fill] at h ⊢
    subst h; exact hc
  | (i, v) :: ps, (j, v') :: qs, cs, ds, out, hp, hf, hc, h => by
    obtain ⟨rfl, hv, hp⟩ := hp
    simp only [flatP, Bool.and_eq_true] at hf
    have hcells := hv.cells' hf.1
    have hl := hcells.length
    have hl2 := hc.length
    simp only [Array.length_toList] at hl hl2
    simp only [Instr.fill] at h ⊢
    cases hpl : place j with
    | none => simp [hpl] at h
    | some p =>
      obtain ⟨off, size⟩ := p
      simp only [hpl] at h ⊢
      rw [← hl, ← hl2]
      split at h
      · cases h
      · rename_i hcond
        rw [if_neg hcond]
        refine fill_rel place hp hf.2 ?_ h
        have := foldl_set_rel (φ := φ) 0 off hcells hc
        rw [← Array.foldl_toList, ← Array.foldl_toList, Array.toList_zipIdx, Array.toList_zipIdx]
        exact this
  | [], _ :: _, _, _, _, h, _, _, _ => h.elim
  | _ :: _, [], _, _, _, h, _, _, _ => h.elim

theorem plain_bind {α β : Type} (s : Sem α) (f : α → Sem β) : plain P (s.bind f) = (plain P s).bind fun a => plain P (f a) := by
  induction s with
  | pure a => rfl
  | program k ih => simpa [Sem.bind, plain] using ih P
  | mark m k ih => simpa [Sem.bind, plain] using ih
  | _ => rfl

def fplaces (P : Program) (fields : Array Field) : Option (Array (Nat × Nat)) := plain P (fields.mapM fun f => do pure (f.offset, ← sizeOf f.type) : Sem (Array (Nat × Nat)))

/-- Building a struct or an array value. -/
def doBuild (P : Program) (t : TypeId) (parts : List (Nat × Value)) : Option Value :=
  match P.info? t with
  | some i => match i.zero with
    | some z =>
      if avL z.cells.toList && flatP parts then
        match P.underlying t with
        | some (.struct fields) => match fplaces P fields with
          | some places => (Instr.fill (places[·]?) z.cells parts).map Value.agg
          | none => none
        | some (.array _ e) => match P.info? e with
          | some ie => (Instr.fill (fun i => some (i * ie.size, ie.size)) z.cells parts).map Value.agg
          | none => none
        | _ => none
      else none
    | none => none
  | none => none

theorem doBuild_ok {t : TypeId} {ps qs : List (Nat × Value)} {v : Value} (h : doBuild P t ps = some v) (hp : PRel φ ps qs) (w : World) :
    ∃ v', (Instr.build t qs.toArray).run P w = .ok v' w ∧ VRel φ v v' := by
  unfold doBuild at h
  split at h
  case h_2 => cases h
  rename_i i hi
  split at h
  case h_2 => cases h
  rename_i z hz
  split at h
  case isFalse => cases h
  rename_i hc
  simp only [Bool.and_eq_true] at hc
  have hzr : LRel φ z.cells.toList z.cells.toList := avL_rel hc.1
  split at h
  · rename_i fields hu
    split at h
    · rename_i places hpl
      simp only [Option.map_eq_some_iff] at h
      obtain ⟨out, hout, rfl⟩ := h
      obtain ⟨out', ho', hr⟩ := fill_rel _ hp hc.2 hzr hout
      have hrun := plain_run (P := P) _ w hpl
      refine ⟨.agg out', ?_, .agg' hr⟩
      simp only [Instr.build, Sem.run_bind, run_zeroValue' hi hz, Result.andThen_ok, run_underlying hu, hrun, ho', Sem.run_pure]
    · cases h
  · rename_i n e hu
    split at h
    · rename_i ie hie
      simp only [Option.map_eq_some_iff] at h
      obtain ⟨out, hout, rfl⟩ := h
      obtain ⟨out', ho', hr⟩ := fill_rel _ hp hc.2 hzr hout
      refine ⟨.agg out', ?_, .agg' hr⟩
      simp only [Instr.build, Sem.run_bind, run_zeroValue' hi hz, Result.andThen_ok, run_underlying hu, run_sizeOf hie, ho', Sem.run_pure]
    · cases h
  · cases h

theorem range0 (f : Nat → Value) : (Array.range 0).map f = #[] := by apply Array.ext <;> simp
/-- A slice literal. -/
def doBuildSlice (P : Program) (H : Hp) (nx : Nat) (t : TypeId) (len : Nat) (parts : List (Nat × Value)) : Option (Value × Hp × Nat) :=
  match P.underlying t with
  | some (.slice e) => match P.info? e with
    | some ie => match ie.zero with
      | some z =>
        if len * ie.size ≤ 2 ^ 24 ∧ len < openCap ∧ avL z.cells.toList = true ∧ flatP parts = true ∧ 0 < z.cells.size then
          match Instr.fill (fun i => some (i * ie.size, ie.size)) ((Array.range (len * ie.size)).map (z.cells[· % z.cells.size]!)) parts with
          | some cells => if avL ((Array.range (len * ie.size)).map (z.cells[· % z.cells.size]!)).toList then some (.slice (some ⟨nx, 0, none⟩) len len, (nx, .cells cells.toList false) :: H, nx + 1) else none
          | none => none
        else none
      | none => none
    | none => none
  | _ => none

theorem doBuildSlice_ok (g : Good φ H K w) {nx : Nat} (hfr : φ nx = none) {t : TypeId} {len : Nat} {ps qs : List (Nat × Value)} {v : Value} {H' : Hp} {nx' : Nat}
    (h : doBuildSlice P H nx t len ps = some (v, H', nx')) (hp : PRel φ ps qs) :
    ∃ v' w' φ', (Instr.buildSlice t len qs.toArray).run P w = .ok v' w' ∧ VRel φ' v v' ∧ Ext φ φ' nx nx' ∧ Good φ' H' K w' ∧ Went K w w' ∧ nx ≤ nx' := by
  unfold doBuildSlice at h
  split at h
  case h_2 => cases h
  rename_i e hu
  split at h
  case h_2 => cases h
  rename_i ie hie
  split at h
  case h_2 => cases h
  rename_i z hz
  split at h
  case isFalse => cases h
  rename_i hc
  obtain ⟨h24, hop, hzv, hf, hpos⟩ := hc
  split at h
  case h_2 => cases h
  rename_i cells hcells
  split at h
  case isFalse => cases h
  rename_i hav
  cases h
  obtain ⟨out', ho', hr⟩ := fill_rel _ hp hf (avL_rel hav) hcells
  have hg := g.make hfr hr e out'.toList.length [] (by simp)
  simp only [List.append_nil, Array.toArray_toList] at hg
  refine ⟨.slice (some ⟨w.heap.size, 0, none⟩) len len, w.alloc (.cells out' e), _, ?_, ?_, Ext.put hfr _, hg, Went.alloc g _, Nat.le_succ _⟩
  · have h24' : ¬ (len * ie.size > 2 ^ 24) := by omega
    by_cases h0 : len * ie.size = 0
    · rw [h0, range0] at ho'
      simp [Instr.buildSlice, run_underlying hu, run_sizeOf hie, h0, range0, ho', newRow]
    · simp [Instr.buildSlice, run_underlying hu, run_sizeOf hie, h24', h0, run_zeroValue' hie hz, ho', newRow] at h24' ⊢
  · have := VRel.sl (φ := φ.put nx ⟨w.heap.size, 0, out'.toList.length⟩) nx 0 len len _ (Ren.put_same _ _ _) hop
    simpa using this

/-- A part of a struct or array value. -/
def doPart (P : Program) (t : TypeId) (cs : List Value) (off : Nat) : Option Value :=
  match P.underlying t, P.info? t with
  | some d, some i => if aggD d then some (.agg ((cs.drop off).take i.size).toArray) else cs[off]?
  | _, _ => none
theorem extract_toList (cs : Array Value) (a n : Nat) : (cs.extract a (a + n)).toList = (cs.toList.drop a).take n := by
  simp [Array.toList_extract]
theorem doPart_ok {t : TypeId} {cs cs' : Array Value} {off : Nat} {v : Value} (h : doPart P t cs.toList off = some v) (hr : LRel φ cs.toList cs'.toList) (w : World) :
    ∃ v', (part t cs' off).run P w = .ok v' w ∧ VRel φ v v' := by
  unfold doPart at h
  split at h
  · rename_i d i hu hi
    by_cases hd : aggD d = true
    · simp only [hd, if_true] at h
      cases h
      refine ⟨.agg (cs'.extract off (off + i.size)), by simp [part, run_isAgg hu, hd, run_sizeOf hi], .agg' ?_⟩
      rw [extract_toList]
      simpa using (hr.drop off).take i.size
    · have hd : aggD d = false := by simpa using hd
      simp only [hd, if_false, Bool.false_eq_true] at h
      obtain ⟨u, hu1, hu2⟩ := hr.get h
      have : cs'[off]? = some u := by simpa using hu1
      exact ⟨u, by simp [part, run_isAgg hu, hd, this], hu2⟩
  · cases h

def doField (P : Program) (t : TypeId) (f : Nat) : Value → Option Value
  | .agg cs => match P.underlying t with
    | some (.struct fields) => match fields[f]? with
      | some fl => doPart P fl.type cs.toList fl.offset
      | none => none
    | _ => none
  | _ => none
theorem doField_ok {t : TypeId} {f : Nat} {x x' v : Value} (h : doField P t f x = some v) (hx : VRel φ x x') (w : World) :
    ∃ v', (Instr.field t x' f).run P w = .ok v' w ∧ VRel φ v v' := by
  unfold doField at h
  split at h
  case h_2 => cases h
  split at h
  case h_2 => cases h
  rename_i fields hu
  split at h
  case h_2 => cases h
  rename_i fl hf
  obtain ⟨ys, rfl, hl⟩ := hx.agg_inv
  obtain ⟨v', h1, h2⟩ := doPart_ok h hl w
  exact ⟨v', by simp [Instr.field, run_underlying hu, hf, asAgg, h1], h2⟩

def doIndex (P : Program) (t : TypeId) (x i : Value) : Option Value :=
  match P.underlying t, x with
  | some (.array n e), .agg cs => match idx i n, P.info? e with
    | some j, some ie => doPart P e cs.toList (j * ie.size)
    | _, _ => none
  | some .string, .string s => if av i then sc P (Instr.index t (.string s) i) else none
  | _, _ => none
theorem doIndex_ok {t : TypeId} {x x' i i' v : Value} (h : doIndex P t x i = some v) (hx : VRel φ x x') (hi : VRel φ i i') (w : World) :
    ∃ v', (Instr.index t x' i').run P w = .ok v' w ∧ VRel φ v v' := by
  unfold doIndex at h
  split at h
  · rename_i n e cs hu
    split at h
    · rename_i j ie hj hie
      obtain ⟨k, z, rfl, h0, h1, rfl⟩ := idx_some hj
      cases hi
      obtain ⟨ys, rfl, hl⟩ := hx.agg_inv
      obtain ⟨v', h2, h3⟩ := doPart_ok h hl w
      exact ⟨v', by simp [Instr.index, asIntOf, run_underlying hu, h0, h1, run_sizeOf hie, h2], h3⟩
    · cases h
  · split at h
    · rename_i hv
      cases hx
      rw [av_eq hv hi]
      exact ⟨v, sc_run h w⟩
    · cases h
  · cases h

def doExtract (n : Nat) : Value → Option Value
  | .tuple vs => vs.toList[n]?
  | _ => none
theorem doExtract_ok {n : Nat} {x x' v : Value} (h : doExtract n x = some v) (hx : VRel φ x x') (w : World) : ∃ v', (Instr.extract x' n).run P w = .ok v' w ∧ VRel φ v v' := by
  unfold doExtract at h
  split at h
  · obtain ⟨ys, rfl, hl⟩ := hx.tuple_inv
    obtain ⟨u, hu1, hu2⟩ := hl.get h
    have : ys[n]? = some u := by simpa using hu1
    exact ⟨u, by simp [Instr.extract, this], hu2⟩
  · cases h

/-- make([]T, l, c). -/
def doMakeSlice (P : Program) (H : Hp) (nx : Nat) (t : TypeId) (l c : Value) : Option (Value × Hp × Nat) :=
  match l, c, P.underlying t with
  | .int kl zl, .int kc zc, some (.slice e) => match P.info? e with
    | some ie => match ie.zero with
      | some z =>
        if IntKind.i64.wrap zl = zl ∧ IntKind.i64.wrap zc = zc ∧ 0 ≤ zl ∧ zl ≤ zc ∧ (ie.bytes : Int) * zc ≤ 2 ^ 48 ∧ zc.toNat < openCap ∧ 0 < z.cells.size ∧
            avL ((Array.range (zc.toNat * ie.size)).map (z.cells[· % z.cells.size]!)).toList = true then
          some (.slice (some ⟨nx, 0, none⟩) zl.toNat zc.toNat, (nx, .cells ((Array.range (zc.toNat * ie.size)).map (z.cells[· % z.cells.size]!)).toList false) :: H, nx + 1)
        else none
      | none => none
    | none => none
  | _, _, _ => none
theorem doMakeSlice_ok (g : Good φ H K w) {nx : Nat} (hfr : φ nx = none) {t : TypeId} {l c l' c' v : Value} {H' : Hp} {nx' : Nat} (h : doMakeSlice P H nx t l c = some (v, H', nx')) (hl : VRel φ l l') (hc : VRel φ c c') :
    ∃ v' w' φ', (Instr.makeSlice t l' c').run P w = .ok v' w' ∧ VRel φ' v v' ∧ Ext φ φ' nx nx' ∧ Good φ' H' K w' ∧ Went K w w' ∧ nx ≤ nx' := by
  unfold doMakeSlice at h
  split at h
  case h_2 => cases h
  rename_i kl zl kc zc e hu
  split at h
  case h_2 => cases h
  rename_i ie hie
  split at h
  case h_2 => cases h
  rename_i z hz
  split at h
  case isFalse => cases h
  rename_i hcond
  obtain ⟨hw1, hw2, h0, h1, h48, hop, hpos, hav⟩ := hcond
  cases h
  cases hl
  cases hc
  have hg := g.make hfr (avL_rel hav) e ((Array.range (zc.toNat * ie.size)).map (z.cells[· % z.cells.size]!)).toList.length [] (by simp)
  simp only [List.append_nil, Array.toArray_toList] at hg
  refine ⟨.slice (some ⟨w.heap.size, 0, none⟩) zl.toNat zc.toNat, w.alloc (.cells ((Array.range (zc.toNat * ie.size)).map (z.cells[· % z.cells.size]!)) e), _, ?_, ?_, Ext.put hfr _, hg, Went.alloc g _, Nat.le_succ _⟩
  · have c1 : (decide (zc < 0) || decide ((ie.bytes : Int) * zc > 2 ^ 48)) = false := by simp; omega
    have c2 : ¬ (zl < 0) := by omega
    have c3 : ¬ (zl > zc) := by omega
    by_cases hq : zc.toNat * ie.size = 0
    · simp only [Instr.makeSlice, Sem.run_bind, run_underlying hu, Result.andThen_ok, asInt, asIntOf, typeInfo, run_program, hie, Sem.run_pure, hw1, hw2]
      simp only [c1, c2, c3, decide_false, Bool.or_false, Bool.false_eq_true, if_false, Sem.run_pure, Result.andThen_ok, run_askRoom, run_sizeOf hie, Sem.run_bind, hq, if_true, range0, newRow, run_newObj]
      rfl
    · simp only [Instr.makeSlice, Sem.run_bind, run_underlying hu, Result.andThen_ok, asInt, asIntOf, typeInfo, run_program, hie, Sem.run_pure, hw1, hw2]
      simp only [c1, c2, c3, decide_false, Bool.or_false, Bool.false_eq_true, if_false, Sem.run_pure, Result.andThen_ok, run_askRoom, run_sizeOf hie, Sem.run_bind, hq, run_zeroValue' hie hz, newRow, run_newObj]
      rfl
  · have := VRel.sl (φ := φ.put nx ⟨w.heap.size, 0, ((Array.range (zc.toNat * ie.size)).map (z.cells[· % z.cells.size]!)).toList.length⟩) nx 0 zl.toNat zc.toNat _ (Ren.put_same _ _ _) hop
    simpa using this

/-- copy(dst, src). -/
def doCopy (P : Program) (H : Hp) (t : TypeId) (d x : Value) : Option (Value × Hp) :=
  match P.underlying t, d, x with
  | some (.slice e), .slice (some ⟨b, o, none⟩) n _, .slice ax m cx => match P.info? e with
    | some ie =>
      if Nat.min m n = 0 then some (goInt 0, H) else
      match srcCells H ie.size (.slice ax (Nat.min m n) cx), H.get b with
      | some (_, news), some (.cells cs false) =>
        if oneL news ∧ o + news.length ≤ cs.length ∧ news ≠ [] then some (goInt (Nat.min m n), H.set b (.cells (spl cs o news) false)) else none
      | _, _ => none
    | none => none
  | some (.slice e), .slice none n _, .slice ax m cx => match P.info? e with
    | some ie => if n = 0 then some (goInt 0, H) else none
    | none => none
  | _, _, _ => none
theorem VRel.shorten {a : Option Addr} {m c k : Nat} {x' : Value} (h : VRel φ (.slice a m c) x') (hk : k ≤ m) : ∃ a' c', x' = .slice a' m c' ∧ VRel φ (.slice a k c) (.slice a' k c') := by
  cases h with
  | slN n c => exact ⟨_, _, rfl, .slN _ _⟩
  | sl b o n c L h hc => exact ⟨_, _, rfl, .sl b o _ c L h hc⟩
  | slO b o n c c' L h hc hn hl => exact ⟨_, _, rfl, .slO b o _ c c' L h hc (by omega) hl⟩
  | slE b o c a' L h hc =>
    have : k = 0 := by omega
    subst this
    exact ⟨_, _, rfl, .slE b o c a' L h hc⟩

theorem doCopy_ok (g : Good φ H K w) {t ts ty : TypeId} {d x d' x' v : Value} {H' : Hp} (h : doCopy P H t d x = some (v, H')) (hd : VRel φ d d') (hx : VRel φ x x') :
    ∃ w', (Builtin.copy_ #[t, ts] ty #[d', x']).run P w = .ok v w' ∧ VRel φ v v ∧ Good φ H' K w' ∧ Went K w w' := by
  unfold doCopy at h
  split at h
  · rename_i e b o n c ax m cx hu
    split at h
    case h_2 => cases h
    rename_i ie hie
    obtain ⟨ax', cx', rfl, hsh⟩ := hx.shorten (Nat.min_le_left m n)
    have hd' : ∃ a' c', d' = .slice (some a') n c' ∧ (n ≠ 0 → ∃ L, φ b = some L ∧ a' = ⟨L.blk, L.off + o, none⟩) := by
      cases hd with
      | sl _ _ _ _ L h _ => exact ⟨_, _, rfl, fun _ => ⟨L, h, rfl⟩⟩
      | slO _ _ _ _ c' L h _ _ _ => exact ⟨_, _, rfl, fun _ => ⟨L, h, rfl⟩⟩
      | slE _ _ _ a' L h _ => exact ⟨_, _, rfl, fun h0 => absurd rfl h0⟩
    obtain ⟨a', c', rfl, hn⟩ := hd'
    split at h
    · rename_i h0
      cases h
      refine ⟨w, ?_, .int _ _, g, Went.refl _ _⟩
      cases ax' <;> simp [Builtin.copy_, run_underlying hu, Builtin.lenOf, h0, run_sizeOf hie, Builtin.firstCells, loadCells, loadCellsFrom, storeCells]
    · rename_i h0
      split at h
      · rename_i m0 news cs hsrc hb
        split at h
        case isFalse => cases h
        rename_i hc
        obtain ⟨h1, hfit, hne⟩ := hc
        cases h
        obtain ⟨a2, c2, us, he, hul, hur, hu0, hax, hcell⟩ := srcCells_ok g hsrc hsh
        cases he
        have hn0 : n ≠ 0 := fun e => h0 (by subst e; exact Nat.min_zero _)
        obtain ⟨L, hL, rfl⟩ := hn hn0
        obtain ⟨w', hst, hg, hw⟩ := g.write P hb hL o hfit h1 hur hne
        refine ⟨w', ?_, .int _ _, hg, hw⟩
        cases ax' with
        | none => exact absurd (hax rfl) h0
        | some a =>
          have hf := run_firstCells_some (P := P) w ie.size (Nat.min m n) a m cx' us hul (hcell a rfl)
          simp [Builtin.copy_, run_underlying hu, Builtin.lenOf, run_sizeOf hie, hf, hst]
      · cases h
  · rename_i e n c ax m cx hu
    split at h
    case h_2 => cases h
    rename_i ie hie
    split at h
    case isFalse => cases h
    rename_i h0
    subst h0
    cases h
    cases hd
    obtain ⟨ax', cx', rfl, hsh⟩ := hx.shorten (Nat.le_refl m)
    refine ⟨w, ?_, .int _ _, g, Went.refl _ _⟩
    cases ax' <;> simp [Builtin.copy_, run_underlying hu, Builtin.lenOf, run_sizeOf hie, Builtin.firstCells, loadCells, loadCellsFrom]
  · cases h
end Go.En
/- The engine, part G: one operation that is no call of a Go function. -/
namespace Go.En
set_option linter.unusedVariables false
variable {P : Program} {φ : Ren} {H : Hp} {K : Nat → Prop} {w : World}

def opvs (tm : List Value) : List Operand → Option (List Value)
  | [] => some []
  | x :: xs => match opv tm x, opvs tm xs with
    | some v, some vs => some (v :: vs)
    | _, _ => none
def partsv (tm : List Value) : List (Nat × Operand) → Option (List (Nat × Value))
  | [] => some []
  | x :: xs => match opv tm x.2, partsv tm xs with
    | some v, some vs => some ((x.1, v) :: vs)
    | _, _ => none
def opvo (tm : List Value) : Option Operand → Option (Option Value)
  | none => some none
  | some x => (opv tm x).map some

theorem opvs_rel {tm : List Value} {a : Act} (h : TRel φ tm a.tmps) : ∀ {xs : List Operand} {vs : List Value}, opvs tm xs = some vs → LRel φ vs (xs.map a.eval)
  | [], vs, hv => by simp [opvs] at hv; subst hv; trivial
  | x :: xs, vs, hv => by
    simp only [opvs] at hv
    split at hv
    · rename_i v us h1 h2; cases hv; exact ⟨opv_rel h h1, opvs_rel h h2⟩
    · cases hv
theorem partsv_rel {tm : List Value} {a : Act} (h : TRel φ tm a.tmps) : ∀ {xs : List (Nat × Operand)} {vs : List (Nat × Value)}, partsv tm xs = some vs → PRel φ vs (xs.map fun p => (p.1, a.eval p.2))
  | [], vs, hv => by simp [partsv] at hv; subst hv; trivial
  | x :: xs, vs, hv => by
    simp only [partsv] at hv
    split at hv
    · rename_i v us h1 h2; cases hv; exact ⟨rfl, opv_rel h h1, partsv_rel h h2⟩
    · cases hv
theorem opvo_rel {tm : List Value} {a : Act} (h : TRel φ tm a.tmps) {x : Option Operand} {v : Option Value} (hx : opvo tm x = some v) : ORel φ v (x.map a.eval) := by
  cases x with
  | none => simp [opvo] at hx; subst hx; trivial
  | some x =>
    simp only [opvo, Option.map_eq_some_iff] at hx
    obtain ⟨u, h1, rfl⟩ := hx
    exact opv_rel h h1

/-- len of a slice, an array, a string. -/
def doLen (P : Program) (t : TypeId) : Value → Option Value
  | .slice _ n _ => match P.underlying t with
    | some (.slice _) => some (goInt n)
    | _ => none
  | v => if av v then sc P (Builtin.len_ #[t] 0 #[v]) else none
theorem doLen_ok {t ty : TypeId} {x x' v : Value} (h : doLen P t x = some v) (hx : VRel φ x x') (w : World) : (Builtin.len_ #[t] ty #[x']).run P w = .ok v w ∧ VRel φ v v := by
  unfold doLen at h
  split at h
  · split at h
    · rename_i hu
      cases h
      obtain ⟨a', c', rfl, _⟩ := hx.shorten (Nat.le_refl _)
      exact ⟨by simp [Builtin.len_, run_underlying hu], .int _ _⟩
    · cases h
  · split at h
    · rename_i hv
      rw [av_eq hv hx]
      exact sc_run (s := Builtin.len_ #[t] ty #[_]) h w
    · cases h

def un1 (H : Hp) (nx : Nat) (v : Option Value) : Option (Value × Hp × Nat) := v.map fun v => (v, H, nx)

/-- The builtins. -/
def doBuiltin (P : Program) (H : Hp) (nx : Nat) (b : Builtin) (ts : List TypeId) (ty : TypeId) (vs : List Value) : Option (Value × Hp × Nat) :=
  match b, ts, vs with
  | .append, [t, u], [s, x] => if t = u then doAppend P H nx t s x else none
  | .len, [t], [x] => un1 H (nx + 1) (doLen P t x)
  | .copy, [t, u], [d, x] => (doCopy P H t d x).map fun r => (r.1, r.2, nx + 1)
  | .min, ts, vs => if avL vs then un1 H (nx + 1) (sc P (Builtin.min_ ts.toArray ty vs.toArray)) else none
  | .max, ts, vs => if avL vs then un1 H (nx + 1) (sc P (Builtin.max_ ts.toArray ty vs.toArray)) else none
  | _, _, _ => none

/-- What an operation comes to, run in the world. -/
def Ran (P : Program) (φ : Ren) (K : Nat → Prop) (w : World) (nx : Nat) (s : Sem Value) (v : Value) (H' : Hp) (nx' : Nat) : Prop :=
  ∃ v' w' φ', s.run P w = .ok v' w' ∧ VRel φ' v v' ∧ Ext φ φ' nx nx' ∧ Good φ' H' K w' ∧ Went K w w' ∧ nx ≤ nx'

theorem Ran.same (g : Good φ H K w) {nx : Nat} {s : Sem Value} {v : Value} (h : ∃ v', s.run P w = .ok v' w ∧ VRel φ v v') : Ran P φ K w nx s v H nx :=
  let ⟨v', h1, h2⟩ := h
  ⟨v', w, φ, h1, h2, Ext.refl _ _ _, g, Went.refl _ _, Nat.le_refl _⟩

theorem Ran.same1 (g : Good φ H K w) {nx : Nat} {s : Sem Value} {v : Value} (h : ∃ v', s.run P w = .ok v' w ∧ VRel φ v v') : Ran P φ K w nx s v H (nx + 1) :=
  let ⟨v', h1, h2⟩ := h
  ⟨v', w, φ, h1, h2, Ext.refl _ _ _, g, Went.refl _ _, Nat.le_succ _⟩

theorem un1_some {v : Option Value} {u : Value} {H H' : Hp} {nx nx' : Nat} (h : un1 H nx v = some (u, H', nx')) : v = some u ∧ H' = H ∧ nx' = nx := by
  unfold un1 at h
  cases v with
  | none => cases h
  | some v => cases h; exact ⟨rfl, rfl, rfl⟩

theorem doBuiltin_ok (g : Good φ H K w) {nx : Nat} (hfr : φ nx = none) {b : Builtin} {ts : List TypeId} {ty : TypeId} {cs : Array Bool} {vs us : List Value} {v : Value} {H' : Hp} {nx' : Nat}
    (h : doBuiltin P H nx b ts ty vs = some (v, H', nx')) (hr : LRel φ vs us) :
    ∃ s, builtin b ts.toArray ty cs us.toArray = (do pure (.value (← s)) : Sem Next) ∧ Ran P φ K w nx s v H' nx' := by
  unfold doBuiltin at h
  split at h
  · rename_i t u s x
    split at h
    · rename_i htu
      subst htu
      match us, hr with
      | [s', x'], ⟨h1, h2, _⟩ =>
        refine ⟨Builtin.append_ #[t, t] ty #[s', x'], rfl, ?_⟩
        obtain ⟨v', w', φ', e1, e2, e3, e4, e5, e6⟩ := doAppend_ok (ty := ty) g hfr h h1 h2
        exact ⟨v', w', φ', e1, e2, e3, e4, e5, e6⟩
    · cases h
  · rename_i t x
    obtain ⟨h2, rfl, rfl⟩ := un1_some h
    match us, hr with
    | [x'], ⟨h1, _⟩ =>
      exact ⟨Builtin.len_ #[t] ty #[x'], rfl, Ran.same1 g ⟨v, doLen_ok h2 h1 w⟩⟩
  · rename_i t u d x
    simp only [Option.map_eq_some_iff] at h
    obtain ⟨r, h, he⟩ := h
    cases he
    match us, hr with
    | [d', x'], ⟨h1, h2, _⟩ =>
      obtain ⟨w', e1, e2, e3, e4⟩ := doCopy_ok (ts := u) (ty := ty) g h h1 h2
      exact ⟨Builtin.copy_ #[t, u] ty #[d', x'], rfl, _, w', φ, e1, e2, Ext.refl _ _ _, e3, e4, Nat.le_succ _⟩
  · split at h
    · rename_i hv
      obtain ⟨h2, rfl, rfl⟩ := un1_some h
      rw [avL_eq hv hr]
      exact ⟨_, rfl, Ran.same1 g ⟨v, sc_run h2 w⟩⟩
    · cases h
  · split at h
    · rename_i hv
      obtain ⟨h2, rfl, rfl⟩ := un1_some h
      rw [avL_eq hv hr]
      exact ⟨_, rfl, Ran.same1 g ⟨v, sc_run h2 w⟩⟩
    · cases h
  · cases h

theorem doAppend_nx {nx : Nat} {t : TypeId} {s x v : Value} {H' : Hp} {nx' : Nat} (h : doAppend P H nx t s x = some (v, H', nx')) : nx' = nx + 1 := by
  unfold doAppend at h
  (repeat' split at h) <;> first | (cases h; done) | (cases h; rfl)
theorem doBuiltin_nx {nx : Nat} {b : Builtin} {ts : List TypeId} {ty : TypeId} {vs : List Value} {v : Value} {H' : Hp} {nx' : Nat} (h : doBuiltin P H nx b ts ty vs = some (v, H', nx')) : nx' = nx + 1 := by
  unfold doBuiltin at h
  split at h
  · split at h
    · exact doAppend_nx h
    · cases h
  · exact (un1_some h).2.2
  · simp only [Option.map_eq_some_iff] at h
    obtain ⟨r, h, he⟩ := h
    cases he; rfl
  · split at h
    · exact (un1_some h).2.2
    · cases h
  · split at h
    · exact (un1_some h).2.2
    · cases h
  · cases h

/-- A new variable that holds a value. -/
def doNew (H : Hp) (nx : Nat) (v : Value) : Option (Value × Hp × Nat) :=
  if flatV v then some (.pointer (some ⟨nx, 0, none⟩), (nx, .cells v.cells.toList false) :: H, nx + 1) else none

/-- One operation that calls no Go function. -/
def doOp (P : Program) (tm : List Value) (H : Hp) (nx : Nat) (o : Oper) : Option (Value × Hp × Nat) :=
  match o.op with
  | .move x => un1 H nx (opv tm x)
  | .assign x => un1 H nx (opv tm x)
  | .pick c a b => match opv tm c with
    | some (.bool true) => un1 H nx (opv tm a)
    | some (.bool false) => un1 H nx (opv tm b)
    | _ => none
  | .alloc t => match P.info? t with
    | some i => match i.zero with
      | some z => if av z then doNew H nx z else none
      | none => none
    | none => none
  | .box t x => (opv tm x).bind fun v => doNew H nx v
  | .build t ps => (partsv tm ps.toList).bind fun vs => un1 H nx (doBuild P t vs)
  | .buildSlice t n ps => (partsv tm ps.toList).bind fun vs => doBuildSlice P H nx t n vs
  | .load t a => (opv tm a).bind fun v => un1 H nx (doLoad P H t v)
  | .store t a x => (opv tm a).bind fun va => (opv tm x).bind fun vx => (doStore P H t va vx).map fun H' => (undef, H', nx)
  | .nilCheck x => match opv tm x with
    | some (.pointer (some a)) => some (.pointer (some a), H, nx)
    | some (.func (.func f) a b) => some (.func (.func f) a b, H, nx)
    | some (.func (.yield f) a b) => some (.func (.yield f) a b, H, nx)
    | _ => none
  | .binOp op t x y _ => (opv tm x).bind fun a => (opv tm y).bind fun b => un1 H nx (doBin P op t x y a b)
  | .unOp op _ x => (opv tm x).bind fun a => un1 H nx (doUn P op a)
  | .convert s d x => (opv tm x).bind fun a => un1 H nx (doConv P s d a)
  | .makeFunc (.func f) fs cs => (opvs tm fs.toList).bind fun a => (opvs tm cs.toList).bind fun b => some (.func (.func f) a.toArray b.toArray, H, nx)
  | .makeSlice t l c => (opv tm l).bind fun a => (opv tm c).bind fun b => doMakeSlice P H nx t a b
  | .slice t x lo hi mx => (opv tm x).bind fun v => (opvo tm lo).bind fun a => (opvo tm hi).bind fun b => (opvo tm mx).bind fun c => un1 H nx (doSlice P t v a b c)
  | .fieldAddr s x f => (opv tm x).bind fun v => un1 H nx (doFieldAddr P s f v)
  | .field t x f => (opv tm x).bind fun v => un1 H nx (doField P t f v)
  | .indexAddr t x i => (opv tm x).bind fun v => (opv tm i).bind fun j => un1 H nx (doIndexAddr P t v j)
  | .index t x i => (opv tm x).bind fun v => (opv tm i).bind fun j => un1 H nx (doIndex P t v j)
  | .extract x n => (opv tm x).bind fun v => un1 H nx (doExtract n v)
  | .call { callee := .builtin b, args, argTypes } => (opvs tm args.toList).bind fun vs => doBuiltin P H nx b argTypes.toList o.type vs
  | _ => none

/-- What an operation comes to, as the machine takes it. -/
def OpRan (P : Program) (φ : Ren) (K : Nat → Prop) (w : World) (nx : Nat) (s : Sem Next) (v : Value) (H' : Hp) (nx' : Nat) : Prop :=
  ∃ nxt w' φ' v', s.run P w = .ok nxt w' ∧ (nxt = .value v' ∨ (nxt = .skip ∧ v' = undef)) ∧ VRel φ' v v' ∧ Ext φ φ' nx nx' ∧ Good φ' H' K w' ∧ Went K w w' ∧ nx ≤ nx'

theorem Ran.op {nx nx' : Nat} {s : Sem Value} {v : Value} {H' : Hp} (h : Ran P φ K w nx s v H' nx') : OpRan P φ K w nx (do pure (.value (← s))) v H' nx' := by
  obtain ⟨v', w', φ', h1, h2, h3, h4, h5, h6⟩ := h
  exact ⟨.value v', w', φ', v', by simp [h1], .inl rfl, h2, h3, h4, h5, h6⟩

theorem doNew_ran (g : Good φ H K w) {nx : Nat} (hfr : φ nx = none) {v v' u : Value} {H' : Hp} {nx' : Nat} (h : doNew H nx v = some (u, H', nx')) (hv : VRel φ v v') (t : TypeId) :
    Ran P φ K w nx (do pure (.pointer (some (← newVar t v')))) u H' nx' := by
  unfold doNew at h
  split at h
  · rename_i hf
    cases h
    obtain ⟨φ', h1, h2, h3, h4⟩ := newVar_ok (P := P) g hfr hv hf t
    exact ⟨_, _, φ', by simp [h1], h4, h2, h3, Went.alloc g _, Nat.le_succ _⟩
  · cases h

theorem opran_skip {nx : Nat} {s : Sem Unit} {H' : Hp} (h : ∃ w', s.run P w = .ok () w' ∧ Good φ H' K w' ∧ Went K w w') : OpRan P φ K w nx (do s; pure .skip) undef H' nx := by
  obtain ⟨w', h1, h2, h3⟩ := h
  exact ⟨.skip, w', φ, undef, by simp [h1], .inr ⟨rfl, rfl⟩, .tuple' (by simp [LRel]), Ext.refl _ _ _, h2, h3, Nat.le_refl _⟩
theorem opran_pure (g : Good φ H K w) {nx : Nat} {v v' : Value} (h : VRel φ v v') : OpRan P φ K w nx (pure (.value v')) v H nx :=
  ⟨.value v', w, φ, v', rfl, .inl rfl, h, Ext.refl _ _ _, g, Went.refl _ _, Nat.le_refl _⟩

set_option maxHeartbeats 1000000 in
theorem doOp_ok (g : Good φ H K w) {tm : List Value} {a : Act} (ht : TRel φ tm a.tmps) {nx : Nat} {o : Oper} {v : Value} {H' : Hp} {nx' : Nat} (hfr : Fresh φ nx nx') (h : doOp P tm H nx o = some (v, H', nx')) :
    OpRan P φ K w nx (execOp a.eval o) v H' nx' := by
  unfold doOp at h
  unfold execOp
  split at h
  · rename_i x ho
    obtain ⟨h2, rfl, rfl⟩ := un1_some h
    simp only [ho]
    exact opran_pure g (opv_rel ht h2)
  · rename_i x ho
    obtain ⟨h2, rfl, rfl⟩ := un1_some h
    simp only [ho]
    exact opran_pure g (opv_rel ht h2)
  · rename_i c x y ho
    simp only [ho]
    split at h
    · rename_i hc
      obtain ⟨h2, rfl, rfl⟩ := un1_some h
      have hc' := opv_rel ht hc
      generalize a.eval c = u at hc'
      cases hc'
      exact opran_pure g (opv_rel ht h2)
    · rename_i hc
      obtain ⟨h2, rfl, rfl⟩ := un1_some h
      have hc' := opv_rel ht hc
      generalize a.eval c = u at hc'
      cases hc'
      exact opran_pure g (opv_rel ht h2)
    · cases h
  · rename_i t ho
    simp only [ho]
    split at h
    case h_2 => cases h
    rename_i i hi
    split at h
    case h_2 => cases h
    rename_i z hz
    split at h
    case isFalse => cases h
    rename_i hv
    have hfr0 : φ nx = none := by
      unfold doNew at h
      split at h
      · cases h; exact hfr nx (Nat.le_refl _) (Nat.lt_succ_self _)
      · cases h
    obtain ⟨v', w', φ', h1, h2⟩ := doNew_ran (P := P) g hfr0 h (av_rel hv) t
    refine Ran.op ⟨v', w', φ', ?_, h2⟩
    simpa [Instr.alloc, run_zeroValue' hi hz] using h1
  · rename_i t x ho
    simp only [ho]
    simp only [Option.bind_eq_some_iff] at h
    obtain ⟨u, hu, h⟩ := h
    have hfr0 : φ nx = none := by
      unfold doNew at h
      split at h
      · cases h; exact hfr nx (Nat.le_refl _) (Nat.lt_succ_self _)
      · cases h
    exact Ran.op (doNew_ran (P := P) g hfr0 h (opv_rel ht hu) t)
  · rename_i t ps ho
    simp only [ho]
    simp only [Option.bind_eq_some_iff] at h
    obtain ⟨vs, hvs, h⟩ := h
    obtain ⟨h2, rfl, rfl⟩ := un1_some h
    obtain ⟨v', h3, h4⟩ := doBuild_ok h2 (partsv_rel ht hvs) w
    refine Ran.op (Ran.same g ⟨v', ?_, h4⟩)
    rw [← h3]; congr 2
    apply Array.ext'; simp
  · rename_i t n ps ho
    simp only [ho]
    simp only [Option.bind_eq_some_iff] at h
    obtain ⟨vs, hvs, h⟩ := h
    have hfr0 : φ nx = none := by
      unfold doBuildSlice at h
      (repeat' split at h) <;> first | (cases h; done) | (cases h; exact hfr nx (Nat.le_refl _) (Nat.lt_succ_self _))
    have := doBuildSlice_ok (P := P) g hfr0 h (partsv_rel ht hvs)
    obtain ⟨v', w', φ', h1, h2⟩ := this
    refine Ran.op ⟨v', w', φ', ?_, h2⟩
    rw [← h1]; congr 2
    apply Array.ext'; simp
  · rename_i t x ho
    simp only [ho]
    simp only [Option.bind_eq_some_iff] at h
    obtain ⟨u, hu, h⟩ := h
    obtain ⟨h2, rfl, rfl⟩ := un1_some h
    exact Ran.op (Ran.same g (doLoad_ok g h2 (opv_rel ht hu)))
  · rename_i t x y ho
    simp only [ho]
    simp only [Option.bind_eq_some_iff, Option.map_eq_some_iff] at h
    obtain ⟨u, hu, u2, hu2, H2, h, he⟩ := h
    cases he
    exact opran_skip (doStore_ok g h (opv_rel ht hu) (opv_rel ht hu2))
  · rename_i x ho
    simp only [ho]
    split at h
    · rename_i b hc
      cases h
      have hc' := opv_rel ht hc
      generalize a.eval x = u at hc'
      cases hc'
      exact opran_pure g (.ptr _ _ _ (by assumption))
    · rename_i f b c hc
      cases h
      have hc' := opv_rel ht hc
      generalize a.eval x = u at hc'
      obtain ⟨fn', ys, us, rfl, hf, h1, h2⟩ := hc'.func_inv
      cases hf
      exact opran_pure g hc'
    · rename_i f b c hc
      cases h
      have hc' := opv_rel ht hc
      generalize a.eval x = u at hc'
      obtain ⟨fn', ys, us, rfl, hf, h1, h2⟩ := hc'.func_inv
      cases hf
      exact opran_pure g hc'
    · cases h
  · rename_i op t x y yt ho
    simp only [ho]
    simp only [Option.bind_eq_some_iff] at h
    obtain ⟨u, hu, u2, hu2, h⟩ := h
    obtain ⟨h2, rfl, rfl⟩ := un1_some h
    exact Ran.op (Ran.same g ⟨v, doBin_ok h2 (opv_rel ht hu) (opv_rel ht hu2) w⟩)
  · rename_i op t x ho
    simp only [ho]
    simp only [Option.bind_eq_some_iff] at h
    obtain ⟨u, hu, h⟩ := h
    obtain ⟨h2, rfl, rfl⟩ := un1_some h
    exact Ran.op (Ran.same g ⟨v, doUn_ok h2 (opv_rel ht hu) w⟩)
  · rename_i s d x ho
    simp only [ho]
    simp only [Option.bind_eq_some_iff] at h
    obtain ⟨u, hu, h⟩ := h
    obtain ⟨h2, rfl, rfl⟩ := un1_some h
    exact Ran.op (Ran.same g ⟨v, doConv_ok h2 (opv_rel ht hu) w⟩)
  · rename_i f fs cs ho
    simp only [ho]
    simp only [Option.bind_eq_some_iff] at h
    obtain ⟨va, ha, vb, hb, h⟩ := h
    cases h
    refine opran_pure g (.func' (.func f) ?_ ?_)
    · simpa using opvs_rel ht ha
    · simpa using opvs_rel ht hb
  · rename_i t l c ho
    simp only [ho]
    simp only [Option.bind_eq_some_iff] at h
    obtain ⟨u, hu, u2, hu2, h⟩ := h
    have hfr0 : φ nx = none := by
      unfold doMakeSlice at h
      (repeat' split at h) <;> first | (cases h; done) | (cases h; exact hfr nx (Nat.le_refl _) (Nat.lt_succ_self _))
    obtain ⟨v', w', φ', h1, h2⟩ := doMakeSlice_ok (P := P) g hfr0 h (opv_rel ht hu) (opv_rel ht hu2)
    exact Ran.op ⟨v', w', φ', h1, h2⟩
  · rename_i t x lo hi mx ho
    simp only [ho]
    simp only [Option.bind_eq_some_iff] at h
    obtain ⟨u, hu, va, ha, vb, hb, vc, hc, h⟩ := h
    obtain ⟨h2, rfl, rfl⟩ := un1_some h
    exact Ran.op (Ran.same g (doSlice_ok h2 (opv_rel ht hu) (opvo_rel ht ha) (opvo_rel ht hb) (opvo_rel ht hc) w))
  · rename_i s x f ho
    simp only [ho]
    simp only [Option.bind_eq_some_iff] at h
    obtain ⟨u, hu, h⟩ := h
    obtain ⟨h2, rfl, rfl⟩ := un1_some h
    exact Ran.op (Ran.same g (doFieldAddr_ok h2 (opv_rel ht hu) w))
  · rename_i t x f ho
    simp only [ho]
    simp only [Option.bind_eq_some_iff] at h
    obtain ⟨u, hu, h⟩ := h
    obtain ⟨h2, rfl, rfl⟩ := un1_some h
    exact Ran.op (Ran.same g (doField_ok h2 (opv_rel ht hu) w))
  · rename_i t x i ho
    simp only [ho]
    simp only [Option.bind_eq_some_iff] at h
    obtain ⟨u, hu, u2, hu2, h⟩ := h
    obtain ⟨h2, rfl, rfl⟩ := un1_some h
    exact Ran.op (Ran.same g (doIndexAddr_ok h2 (opv_rel ht hu) (opv_rel ht hu2) w))
  · rename_i t x i ho
    simp only [ho]
    simp only [Option.bind_eq_some_iff] at h
    obtain ⟨u, hu, u2, hu2, h⟩ := h
    obtain ⟨h2, rfl, rfl⟩ := un1_some h
    exact Ran.op (Ran.same g (doIndex_ok h2 (opv_rel ht hu) (opv_rel ht hu2) w))
  · rename_i x n ho
    simp only [ho]
    simp only [Option.bind_eq_some_iff] at h
    obtain ⟨u, hu, h⟩ := h
    obtain ⟨h2, rfl, rfl⟩ := un1_some h
    exact Ran.op (Ran.same g (doExtract_ok h2 (opv_rel ht hu) w))
  · rename_i b args ats ho
    simp only [ho]
    simp only [Option.bind_eq_some_iff] at h
    obtain ⟨vs, hvs, h⟩ := h
    have hn := doBuiltin_nx h
    subst hn
    obtain ⟨s, hs, hr⟩ := doBuiltin_ok (cs := args.map fun | .const _ => true | _ => false) g (hfr nx (Nat.le_refl _) (Nat.lt_succ_self _)) h (opvs_rel ht hvs)
    have e : (do let d ← resolve a.eval { callee := .builtin b, args, argTypes := ats } o.type; invoke d.target d.args : Sem Next) = (do pure (.value (← s)) : Sem Next) := by
      rw [← hs]
      show builtin b ats o.type _ _ = _
      congr 1
      apply Array.ext'; simp
    rw [e]
    exact hr.op
  · cases h
end Go.En
/- The engine, part H: what calls, code, rounds mean on abstract states; the rules. -/
namespace Go.En
set_option linter.unusedVariables false
variable {P : Program} {φ : Ren} {H : Hp} {K : Nat → Prop} {w : World}

/-- The fence that lets all by, in a round or not. -/
def fw (r : Option Nat) : Fence := { Fence.wide with round := r }

structure Res where
  e : Exit
  tm : List Value
  ds : List Nat
  H : Hp
  nx : Nat

def DRel (φ : Ren) : List Nat → List Deferred → Prop
  | [], [] => True
  | d :: ds, x :: xs => (∃ L, φ d = some L ∧ x = { target := .collected L.blk, args := #[] }) ∧ DRel φ ds xs
  | _, _ => False
theorem DRel.mono {φ φ' : Ren} (hl : φ.le φ') : ∀ {ds : List Nat} {xs : List Deferred}, DRel φ ds xs → DRel φ' ds xs
  | [], [], _ => trivial
  | _ :: _, _ :: _, h => ⟨let ⟨L, h1, h2⟩ := h.1; ⟨L, hl _ _ h1, h2⟩, DRel.mono hl h.2⟩
  | [], _ :: _, h => h.elim
  | _ :: _, [], h => h.elim
def RRel (φ : Ren) : Option Nat → Option Nat → Prop
  | none, none => True
  | some l, some c => ∃ L, φ l = some L ∧ L.blk = c
  | _, _ => False
theorem RRel.mono {φ φ' : Ren} (hl : φ.le φ') {r rc : Option Nat} (h : RRel φ r rc) : RRel φ' r rc := by
  cases r <;> cases rc <;> simp only [RRel] at h ⊢
  obtain ⟨L, h1, h2⟩ := h
  exact ⟨L, hl _ _ h1, h2⟩

/-- What a frame's code comes to, in the world. -/
def Post (φ : Ren) (K : Nat → Prop) (w : World) (lo : Nat) (R : Res) (e : Exit) (a' : Act) (w' : World) : Prop :=
  e = R.e ∧ ∃ φ', Ext φ φ' lo R.nx ∧ Good φ' R.H K w' ∧ TRel φ' R.tm a'.tmps ∧ DRel φ' R.ds a'.defers ∧ Went K w w'

def CallOk (P : Program) (f : FuncId) (args : List Value) (H : Hp) (nx : Nat) (v : Value) (H' : Hp) (nx' : Nat) : Prop :=
  nx ≤ nx' ∧ ∀ φ w K us, Good φ H K w → Fresh φ nx nx' → LRel φ args us →
    Calls P f us.toArray w fun e w' => ∃ v' φ', e = .returned v' ∧ VRel φ' v v' ∧ Ext φ φ' nx nx' ∧ Good φ' H' K w' ∧ Went K w w'

def CodeOk (P : Program) (r : Option Nat) (c : Code) (tm : List Value) (ds : List Nat) (H : Hp) (nx : Nat) (R : Res) : Prop :=
  nx ≤ R.nx ∧ ∀ φ w K a rc, Good φ H K w → Fresh φ nx R.nx → TRel φ tm a.tmps → DRel φ ds a.defers → RRel φ r rc → c.wpIn (fw rc) 0 P (Post φ K w nx R) a w

def LoopOk (P : Program) (r : Option Nat) (c : Code) (tm : List Value) (ds : List Nat) (H : Hp) (nx : Nat) (R : Res) : Prop :=
  nx ≤ R.nx ∧ ∃ m, ∀ φ w K a rc, Good φ H K w → Fresh φ nx R.nx → TRel φ tm a.tmps → DRel φ ds a.defers → RRel φ r rc → Code.roundsIn (fw rc) 0 P c (Post φ K w nx R) m a w

theorem Post.after {φ φ' : Ren} {K : Nat → Prop} {w w' : World} {lo mi : Nat} {R : Res} {e : Exit} {a : Act} {w'' : World} (he : Ext φ φ' lo mi) (hw : Went K w w') (h1 : lo ≤ mi) (h2 : mi ≤ R.nx) (h : Post φ' K w' mi R e a w'') : Post φ K w lo R e a w'' := by
  obtain ⟨rfl, φ2, k1, k2, k3, k4, k5⟩ := h
  exact ⟨rfl, φ2, he.trans k1 h1 h2, k2, k3, k4, hw.trans k5⟩

theorem codeOk_skip {r : Option Nat} {tm : List Value} {ds : List Nat} {nx : Nat} : CodeOk P r .skip tm ds H nx ⟨.normal, tm, ds, H, nx⟩ :=
  ⟨Nat.le_refl _, fun φ w K a rc g hf ht hd hr => wpIn_skip ⟨rfl, φ, Ext.refl _ _ _, g, ht, hd, Went.refl _ _⟩⟩
theorem codeOk_label {r : Option Nat} {l : Nat} {tm : List Value} {ds : List Nat} {nx : Nat} : CodeOk P r (.label l) tm ds H nx ⟨.normal, tm, ds, H, nx⟩ :=
  ⟨Nat.le_refl _, fun φ w K a rc g hf ht hd hr => wpIn_label ⟨rfl, φ, Ext.refl _ _ _, g, ht, hd, Went.refl _ _⟩⟩
theorem codeOk_exit {r : Option Nat} {i : Nat} {tm : List Value} {ds : List Nat} {nx : Nat} : CodeOk P r (.exit i) tm ds H nx ⟨.exit i, tm, ds, H, nx⟩ :=
  ⟨Nat.le_refl _, fun φ w K a rc g hf ht hd hr => wpIn_exit ⟨rfl, φ, Ext.refl _ _ _, g, ht, hd, Went.refl _ _⟩⟩
theorem codeOk_goto {r : Option Nat} {i : Nat} {tm : List Value} {ds : List Nat} {nx : Nat} : CodeOk P r (.goto i) tm ds H nx ⟨.goto i, tm, ds, H, nx⟩ :=
  ⟨Nat.le_refl _, fun φ w K a rc g hf ht hd hr => wpIn_goto ⟨rfl, φ, Ext.refl _ _ _, g, ht, hd, Went.refl _ _⟩⟩
theorem codeOk_ret {r : Option Nat} {tm : List Value} {ds : List Nat} {nx : Nat} : CodeOk P r .ret tm ds H nx ⟨.ret, tm, ds, H, nx⟩ :=
  ⟨Nat.le_refl _, fun φ w K a rc g hf ht hd hr => wpIn_ret ⟨rfl, φ, Ext.refl _ _ _, g, ht, hd, Went.refl _ _⟩⟩

theorem codeOk_seq {r : Option Nat} {x y : Code} {tm : List Value} {ds : List Nat} {nx : Nat} {R1 R : Res} (h1 : CodeOk P r x tm ds H nx R1) (he : R1.e = .normal) (h2 : CodeOk P r y R1.tm R1.ds R1.H R1.nx R) : CodeOk P r (.seq x y) tm ds H nx R := by
  refine ⟨Nat.le_trans h1.1 h2.1, fun φ w K a rc g hf ht hd hr => wpIn_seq (wpIn_mono (h1.2 φ w K a rc g (hf.left h2.1) ht hd hr) ?_)⟩
  rintro e a1 w1 ⟨rfl, φ1, k1, k2, k3, k4, k5⟩
  rw [he]
  exact wpIn_mono (h2.2 φ1 w1 K a1 rc k2 (hf.right k1 h1.1) k3 k4 (hr.mono k1.1)) fun e a2 w2 hp => hp.after k1 k5 h1.1 h2.1
theorem codeOk_seq_out {r : Option Nat} {x y : Code} {tm : List Value} {ds : List Nat} {nx : Nat} {R : Res} (h1 : CodeOk P r x tm ds H nx R) (he : R.e ≠ .normal) : CodeOk P r (.seq x y) tm ds H nx R := by
  refine ⟨h1.1, fun φ w K a rc g hf ht hd hr => wpIn_seq (wpIn_mono (h1.2 φ w K a rc g hf ht hd hr) ?_)⟩
  intro e a1 w1 hp
  obtain ⟨rfl, _⟩ := id hp
  cases hE : R.e with
  | normal => exact absurd hE he
  | _ => rw [hE] at hp; exact hp
theorem codeOk_cond {r : Option Nat} {c : Operand} {x y : Code} {tm : List Value} {ds : List Nat} {nx : Nat} {R : Res} {b : Bool} (hc : opv tm c = some (.bool b)) (h : CodeOk P r (if b then x else y) tm ds H nx R) : CodeOk P r (.cond c x y) tm ds H nx R := by
  refine ⟨h.1, fun φ w K a rc g hf ht hd hr => ?_⟩
  have hv := opv_rel ht hc
  have hb : a.eval c = .bool b := by generalize a.eval c = u at hv; cases hv; rfl
  exact wpIn_cond hb (h.2 φ w K a rc g hf ht hd hr)

def Res.inBlock (i : Nat) (R : Res) : Res := match R.e with
  | .exit j => if j = i then { R with e := .normal } else R
  | _ => R
theorem codeOk_block {r : Option Nat} {i : Nat} {c : Code} {tm : List Value} {ds : List Nat} {nx : Nat} {R : Res} (h : CodeOk P r c tm ds H nx R) : CodeOk P r (.block i c) tm ds H nx (R.inBlock i) := by
  have hnx : (R.inBlock i).nx = R.nx := by unfold Res.inBlock; split <;> (try split) <;> rfl
  refine ⟨by rw [hnx]; exact h.1, fun φ w K a rc g hf ht hd hr => wpIn_block (wpIn_mono (h.2 φ w K a rc g (by rw [hnx] at hf; exact hf) ht hd hr) ?_)⟩
  rintro e a1 w1 ⟨rfl, φ1, k1, k2, k3, k4, k5⟩
  unfold Exit.inBlock Res.inBlock
  cases hE : R.e with
  | exit j =>
    simp only
    by_cases hj : j = i
    · simp only [hj, if_true]; exact ⟨rfl, φ1, k1, k2, k3, k4, k5⟩
    · simp only [hj, if_false]; exact ⟨hE.symm, φ1, k1, k2, k3, k4, k5⟩
  | _ => exact ⟨hE.symm, φ1, k1, k2, k3, k4, k5⟩

theorem loopOk_more {r : Option Nat} {c : Code} {tm : List Value} {ds : List Nat} {nx : Nat} {R1 R : Res} (h1 : CodeOk P r c tm ds H nx R1) (he : R1.e = .normal) (h2 : LoopOk P r c R1.tm R1.ds R1.H R1.nx R) : LoopOk P r c tm ds H nx R := by
  obtain ⟨hle, m, h2⟩ := h2
  refine ⟨Nat.le_trans h1.1 hle, m + 1, fun φ w K a rc g hf ht hd hr => ?_⟩
  rw [roundsIn_succ]
  refine wpIn_mono (h1.2 φ w K a rc g (hf.left hle) ht hd hr) ?_
  rintro e a1 w1 ⟨rfl, φ1, k1, k2, k3, k4, k5⟩
  rw [he]
  have := h2 φ1 w1 K a1 rc k2 (hf.right k1 h1.1) k3 k4 (hr.mono k1.1)
  have mono : ∀ (m : Nat) (a : Act) (w2 : World), Code.roundsIn (fw rc) 0 P c (Post φ1 K w1 R1.nx R) m a w2 → Code.roundsIn (fw rc) 0 P c (Post φ K w nx R) m a w2 := by
    intro m
    induction m with
    | zero => intro a w2 h; exact h
    | succ m ih =>
      intro a w2 h
      rw [roundsIn_succ] at h ⊢
      refine wpIn_mono h ?_
      intro e a2 w3 hq
      cases e <;> first | exact ih _ _ hq | exact Post.after k1 k5 h1.1 hle hq
  exact mono m a1 w1 this
theorem loopOk_out {r : Option Nat} {c : Code} {tm : List Value} {ds : List Nat} {nx : Nat} {R : Res} (h1 : CodeOk P r c tm ds H nx R) (he : R.e ≠ .normal) : LoopOk P r c tm ds H nx R := by
  refine ⟨h1.1, 1, fun φ w K a rc g hf ht hd hr => ?_⟩
  rw [roundsIn_succ]
  refine wpIn_mono (h1.2 φ w K a rc g hf ht hd hr) ?_
  intro e a1 w1 hp
  obtain ⟨rfl, _⟩ := id hp
  cases hE : R.e with
  | normal => exact absurd hE he
  | _ => rw [hE] at hp; exact hp
theorem codeOk_loop {r : Option Nat} {c : Code} {tm : List Value} {ds : List Nat} {nx : Nat} {R : Res} (h : LoopOk P r c tm ds H nx R) : CodeOk P r (.loop c) tm ds H nx R := by
  obtain ⟨hle, m, h⟩ := h
  exact ⟨hle, fun φ w K a rc g hf ht hd hr => wpIn_loop_rounds m (h φ w K a rc g hf ht hd hr)⟩

/-- A scope, jump by jump. -/
def scopeIn (P : Program) (c : Code) (Q : Exit → Act → World → Prop) : Nat → Code → Act → World → Prop
  | 0, _, _, _ => False
  | m + 1, x, a, w => x.wp P (fun e a w => match e with
    | .goto l => match findLabel c l with
      | some rest => scopeIn P c Q m rest a w
      | none => Q (.goto l) a w
    | e => Q e a w) a w
theorem wp_scope_in {c : Code} {Q : Exit → Act → World → Prop} {a : Act} {w : World} (m : Nat) (h : scopeIn P c Q m c a w) : (Code.scope c).wp P Q a w := by
  intro b k cs
  have key : ∀ m x a w, scopeIn P c Q m x a w → ∃ e a' w', Q e a' w' ∧ Arrives P (lone (b.at a (.code x :: .inScope c :: k)) cs w) b k cs e a' w' := by
    intro m
    induction m with
    | zero => intro x a w h; exact h.elim
    | succ m ih =>
      intro x a w h
      obtain ⟨e, a1, w1, hq, harr⟩ := h b (.inScope c :: k) cs
      cases e with
      | normal => exact ⟨.normal, a1, w1, hq, Steps.trans harr (.one step_inScope)⟩
      | exit id => exact ⟨.exit id, a1, w1, hq, fun k' hk => harr k' (by simp [exitTo, hk])⟩
      | goto l =>
        simp only at hq
        cases hf : findLabel c l with
        | none =>
          rw [hf] at hq
          exact ⟨.goto l, a1, w1, hq, fun k' hk => harr k' (by simp [gotoIn, hf, hk])⟩
        | some rest =>
          rw [hf] at hq
          obtain ⟨e2, a2, w2, hq2, harr2⟩ := ih rest a1 w1 hq
          exact ⟨e2, a2, w2, hq2, .of_steps (harr _ (by simp [gotoIn, hf])) harr2⟩
      | ret => exact ⟨_, a1, w1, hq, harr⟩
      | panic ch => exact ⟨_, a1, w1, hq, harr⟩
      | outgrown => exact ⟨_, a1, w1, hq, harr⟩
  obtain ⟨e, a1, w1, hq, harr⟩ := key m c a w h
  exact ⟨e, a1, w1, hq, .of_steps (.one step_scope) harr⟩

def ScpOk (P : Program) (c x : Code) (tm : List Value) (ds : List Nat) (H : Hp) (nx : Nat) (R : Res) : Prop :=
  nx ≤ R.nx ∧ ∃ m, ∀ φ w K a, Good φ H K w → Fresh φ nx R.nx → TRel φ tm a.tmps → DRel φ ds a.defers → scopeIn P c (Post φ K w nx R) m x a w

theorem CodeOk.wp {c : Code} {tm : List Value} {ds : List Nat} {nx : Nat} {R : Res} (h : CodeOk P none c tm ds H nx R) {φ : Ren} {w : World} {K : Nat → Prop} {a : Act} (g : Good φ H K w) (hf : Fresh φ nx R.nx) (ht : TRel φ tm a.tmps) (hd : DRel φ ds a.defers) :
    c.wp P (Post φ K w nx R) a w := (wpIn_wide (n := 0)).1 (h.2 φ w K a none g hf ht hd trivial)

theorem scopeIn_mono {c : Code} {Q Q' : Exit → Act → World → Prop} (hq : ∀ e a w, Q e a w → Q' e a w) : ∀ (m : Nat) (x : Code) (a : Act) (w : World), scopeIn P c Q m x a w → scopeIn P c Q' m x a w
  | 0, _, _, _, h => h
  | m + 1, x, a, w, h => by
    refine Code.wp_mono (fun e a w he => ?_) h
    cases e with
    | goto l =>
      simp only at he ⊢
      cases hf : findLabel c l with
      | none => rw [hf] at he; exact hq _ _ _ he
      | some rest => rw [hf] at he; exact scopeIn_mono hq m rest a w he
    | _ => exact hq _ _ _ he

theorem scpOk_jump {c x rest : Code} {l : Nat} {tm : List Value} {ds : List Nat} {nx : Nat} {R1 R : Res} (h1 : CodeOk P none x tm ds H nx R1) (he : R1.e = .goto l) (hf : findLabel c l = some rest) (h2 : ScpOk P c rest R1.tm R1.ds R1.H R1.nx R) : ScpOk P c x tm ds H nx R := by
  obtain ⟨hle, m, h2⟩ := h2
  refine ⟨Nat.le_trans h1.1 hle, m + 1, fun φ w K a g hfr ht hd => ?_⟩
  refine Code.wp_mono ?_ (h1.wp g (hfr.left hle) ht hd)
  rintro e a1 w1 ⟨rfl, φ1, k1, k2, k3, k4, k5⟩
  rw [he]
  simp only [hf]
  exact scopeIn_mono (fun e a2 w2 hp => Post.after k1 k5 h1.1 hle hp) m rest a1 w1 (h2 φ1 w1 K a1 k2 (hfr.right k1 h1.1) k3 k4)
theorem scpOk_out {c x : Code} {tm : List Value} {ds : List Nat} {nx : Nat} {R : Res} (h1 : CodeOk P none x tm ds H nx R) (he : ∀ l, R.e ≠ .goto l) : ScpOk P c x tm ds H nx R := by
  refine ⟨h1.1, 1, fun φ w K a g hfr ht hd => ?_⟩
  refine Code.wp_mono ?_ (h1.wp g hfr ht hd)
  intro e a1 w1 hp
  obtain ⟨rfl, _⟩ := id hp
  cases hE : R.e with
  | goto l => exact absurd hE (he l)
  | _ => rw [hE] at hp; exact hp
theorem codeOk_scope {c : Code} {tm : List Value} {ds : List Nat} {nx : Nat} {R : Res} (h : ScpOk P c c tm ds H nx R) : CodeOk P none (.scope c) tm ds H nx R := by
  obtain ⟨hle, m, h⟩ := h
  refine ⟨hle, fun φ w K a rc g hf ht hd hr => ?_⟩
  cases rc with
  | some c => exact hr.elim
  | none => exact (wpIn_wide (n := 0)).2 (wp_scope_in m (h φ w K a g hf ht hd))

theorem CallOk.le {f : FuncId} {args : List Value} {nx : Nat} {v : Value} {H' : Hp} {nx' : Nat} (h : CallOk P f args H nx v H' nx') : nx ≤ nx' := h.1

/-- A sub-heap will do, behind. -/
theorem CodeOk.sub {r : Option Nat} {c : Code} {tm : List Value} {ds : List Nat} {nx : Nat} {R : Res} (h : CodeOk P r c tm ds H nx R) {H' : Hp} (hs : ∀ b k, H'.get b = some k → R.H.get b = some k) : CodeOk P r c tm ds H nx { R with H := H' } :=
  ⟨h.1, fun φ w K a rc g hf ht hd hr => wpIn_mono (h.2 φ w K a rc g hf ht hd hr) fun e a1 w1 ⟨k0, φ1, k1, k2, k3, k4, k5⟩ => ⟨k0, φ1, k1, k2.sub hs, k3, k4, k5⟩⟩
end Go.En
/- The engine, part I: an operation of a region: plain, a call, a round of a loop over a function. -/
namespace Go.En
set_option linter.unusedVariables false
variable {P : Program} {φ : Ren} {H : Hp} {K : Nat → Prop} {w : World}

def OpOk (P : Program) (r : Option Nat) (o : Oper) (tm : List Value) (H : Hp) (nx : Nat) (v : Value) (H' : Hp) (nx' : Nat) : Prop :=
  nx ≤ nx' ∧ ∀ (φ : Ren) (w : World) (K : Nat → Prop) (a : Act) (rc : Option Nat) (next : Act → World → Prop) (Q : Exit → Act → World → Prop), Good φ H K w → Fresh φ nx nx' → TRel φ tm a.tmps → RRel φ r rc →
    (∀ v' φ' w', VRel φ' v v' → Ext φ φ' nx nx' → Good φ' H' K w' → Went K w w' → next (a.put o.dst v') w') → o.wpIn (fw rc) 0 P a w next Q

theorem about_fw {rc : Option Nat} {o : Oper} {a : Act} {w : World} : ∀ f, o.about P w a.eval = some f → (fw rc).fn f := fun _ _ => trivial

theorem doOp_nodefer {tm : List Value} {nx : Nat} {o : Oper} {x : Value × Hp × Nat} (h : doOp P tm H nx o = some x) : ∀ c, o.op ≠ .defer c := by
  intro c hc
  unfold doOp at h
  simp [hc] at h

theorem doOp_le {tm : List Value} {nx : Nat} {o : Oper} {v : Value} {H' : Hp} {nx' : Nat} (h : doOp P tm H nx o = some (v, H', nx')) : nx ≤ nx' := by
  unfold doOp at h
  split at h
  case h_4 =>
    split at h
    case h_2 => cases h
    split at h
    case h_2 => cases h
    split at h
    case isFalse => cases h
    unfold doNew at h
    split at h
    · cases h; omega
    · cases h
  case h_5 =>
    simp only [Option.bind_eq_some_iff] at h
    obtain ⟨u, hu, h⟩ := h
    unfold doNew at h
    split at h
    · cases h; omega
    · cases h
  case h_7 =>
    simp only [Option.bind_eq_some_iff] at h
    obtain ⟨u, hu, h⟩ := h
    unfold doBuildSlice at h
    (repeat' split at h) <;> first | (cases h; done) | (cases h; omega)
  case h_15 =>
    simp only [Option.bind_eq_some_iff] at h
    obtain ⟨u, hu, u2, hu2, h⟩ := h
    unfold doMakeSlice at h
    (repeat' split at h) <;> first | (cases h; done) | (cases h; omega)
  case h_22 =>
    simp only [Option.bind_eq_some_iff] at h
    obtain ⟨u, hu, h⟩ := h
    have := doBuiltin_nx h
    omega
  all_goals first
    | (cases h; done)
    | (have := (un1_some h).2.2; omega)
    | (simp only [Option.bind_eq_some_iff, Option.map_eq_some_iff] at h; obtain ⟨u, hu, h⟩ := h; first | (have := (un1_some h).2.2; omega) | (obtain ⟨u2, hu2, h⟩ := h; first | (have := (un1_some h).2.2; omega) | (cases h; omega) | (obtain ⟨u3, hu3, h⟩ := h; first | (cases h; omega) | (obtain ⟨u4, hu4, h⟩ := h; have := (un1_some h).2.2; omega))))
    | (split at h <;> first | (cases h; done) | (have := (un1_some h).2.2; omega) | (cases h; omega))

theorem opOk_plain {r : Option Nat} {o : Oper} {tm : List Value} {nx : Nat} {v : Value} {H' : Hp} {nx' : Nat} (h : doOp P tm H nx o = some (v, H', nx')) : OpOk P r o tm H nx v H' nx' := by
  refine ⟨doOp_le h, fun φ w K a rc next Q g hf ht hr hk => ⟨about_fw, ?_⟩⟩
  obtain ⟨nxt, w', φ', v', h1, h2, h3, h4, h5, h6, h7⟩ := doOp_ok g ht hf h
  rw [Oper.semAt_eq _ _ _ (doOp_nodefer h), h1]
  rcases h2 with rfl | ⟨rfl, rfl⟩
  · exact hk v' φ' w' h3 h4 h5 h6
  · exact hk undef φ' w' h3 h4 h5 h6

/-- No function of the program is one that the machine takes by its name. -/
def NoSpecial (P : Program) : Prop := ∀ (f : FuncId) (fn : Func), P.funcs[f]? = some fn → (fn.name == "runtime.NumGoroutine") = false

theorem run_callFunc {f : FuncId} {fn : Func} (hs : NoSpecial P) (hf : P.funcs[f]? = some fn) (hb : fn.body.isSome = true) (args : Array Value) (w : World) : (callFunc f args).run P w = .ok (.enter f args) w := by
  have h1 := hs f fn hf
  have h2 : fn.body.isNone = false := by cases h : fn.body <;> simp_all
  unfold callFunc
  simp only [Sem.run_bind, run_program, Result.andThen_ok, hf, h1, h2, Bool.false_eq_true, if_false, Sem.run_pure]

theorem callsIn_fw {rc : Option Nat} {f : FuncId} {args : Array Value} {w : World} {R : Ending → World → Prop} (h : Calls P f args w R) : CallsIn (fw rc) 0 P f args w R := by
  have := callsIn_wide (n := 0).2 h
  cases rc with
  | none => exact this
  | some l => exact CallsIn.inRound l this

/-- Calling a function value. -/
theorem opOk_call {r : Option Nat} {o : Oper} {tm : List Value} {nx : Nat} {v : Value} {H' : Hp} {nx' : Nat} {cf : Operand} {args : Array Operand} {ats : Array TypeId} (ho : o.op = .call { callee := .value cf, args := args, argTypes := ats })
    {f : FuncId} {fn : Func} {fs cs : Array Value} {vs : List Value} (hs : NoSpecial P) (hfn : P.funcs[f]? = some fn) (hb : fn.body.isSome = true)
    (hcf : opv tm cf = some (.func (.func f) fs cs)) (hvs : opvs tm args.toList = some vs) (h : CallOk P f (fs.toList ++ vs ++ cs.toList) H nx v H' nx') : OpOk P r o tm H nx v H' nx' := by
  refine ⟨h.1, fun φ w K a rc next Q g hf ht hr hk => ⟨about_fw, ?_⟩⟩
  have hcv := opv_rel ht hcf
  obtain ⟨fn', ys, us, hev, hfr, h1, h2⟩ := hcv.func_inv
  cases hfr
  have hvr := opvs_rel ht hvs
  have hrun : (execOp a.eval o).run P w = .ok (.enter f (ys ++ args.map a.eval ++ us)) w := by
    unfold execOp
    simp only [ho, resolve, hev, Deferred.ofValue, Sem.run_bind, Sem.run_pure, Result.andThen_ok, invoke, run_callFunc hs hfn hb]
  rw [Oper.semAt_eq _ _ _ (fun c hc => by rw [ho] at hc; cases hc), hrun]
  refine ⟨fun h0 => by simp [fw, Fence.wide] at h0, ?_⟩
  have hc := h.2 φ w K (ys.toList ++ (args.map a.eval).toList ++ us.toList) g hf ((h1.append (by simpa using hvr)).append h2)
  have ea : (ys.toList ++ (args.map a.eval).toList ++ us.toList).toArray = ys ++ args.map a.eval ++ us := by apply Array.ext'; simp
  rw [ea] at hc
  refine (callsIn_fw hc).mono ?_
  rintro e w' ⟨v', φ', rfl, k1, k2, k3, k4⟩
  exact hk v' φ' w' k1 k2 k3 k4

/-- The record of a loop over a function, turned. -/
theorem loop_set (g : Good φ H K w) {l : Nat} {L : Loop} {Lc : Loc} (hl : H.get l = some (.loop L)) (hL : φ l = some Lc) :
    ∃ l' : Loop, w.heap[Lc.blk]? = some (.loop l') ∧ l'.state = L.state ∧ l'.pending = L.pending ∧ TRel φ L.tmps.toList l'.tmps ∧ l'.params = L.params ∧ l'.assign = L.assign ∧ l'.body = L.body ∧
      ∀ (s : LoopState) (p : Option Code), Good φ (H.set l (.loop { L with state := s, pending := p })) K { w with heap := w.heap.setIfInBounds Lc.blk (.loop { l' with state := s, pending := p }) } ∧
        Went K w { w with heap := w.heap.setIfInBounds Lc.blk (.loop { l' with state := s, pending := p }) } := by
  obtain ⟨l', h1, h2, h3, h4, h5, h6, h7, D, h8, h9⟩ := g.at hl hL
  have hlt : Lc.blk < w.heap.size := (Array.getElem?_eq_some_iff.1 h1).1
  refine ⟨l', h1, h2, h3, h4, h5, h6, h7, fun s p => ?_⟩
  have hoth : ∀ (o : Obj) c, c ≠ Lc.blk → ({ w with heap := w.heap.setIfInBounds Lc.blk o } : World).heap[c]? = w.heap[c]? := fun o c hc => by
    show (w.heap.setIfInBounds Lc.blk o)[c]? = _
    rw [Array.getElem?_setIfInBounds, if_neg (fun e => hc e.symm)]
  refine ⟨g.upd hl rfl hL (hoth _) (by simp) ⟨{ l' with state := s, pending := p }, ?_, rfl, rfl, h4, h5, h6, h7, D, h8, h9⟩, ⟨rfl, rfl, rfl, by simp, fun c hc => hoth _ c (fun e => g.prot l _ Lc hl rfl hL (e ▸ hc))⟩⟩
  show (w.heap.setIfInBounds Lc.blk _)[Lc.blk]? = _
  rw [Array.getElem?_setIfInBounds]; simp [hlt]

def setParams : List Tmp → List Value → List Value → List Value
  | t :: ts, v :: vs, tm => setParams ts vs (tm.set t v)
  | _, _, tm => tm
theorem setParams_rel : ∀ {ps : List Tmp} {vs us : List Value} {tm : List Value} {ts : Array Value}, LRel φ vs us → TRel φ tm ts →
    TRel φ (setParams ps vs tm) ((ps.zip us).foldl (fun (ts : Array Value) (x : Tmp × Value) => ts.setIfInBounds x.1 x.2) ts)
  | [], vs, us, tm, ts, _, h => by simpa [setParams] using h
  | p :: ps, [], [], tm, ts, _, h => by simpa [setParams] using h
  | p :: ps, v :: vs, u :: us, tm, ts, hr, h => by
    simp only [setParams, List.zip_cons_cons, List.foldl_cons]
    exact setParams_rel hr.2 (h.set p hr.1)
  | _ :: _, [], _ :: _, _, _, hr, _ => hr.elim
  | _ :: _, _ :: _, [], _, _, hr, _ => hr.elim

/-- How a round ends. -/
def roundEnd (e : Exit) : Option (Bool × LoopState × Option Code) :=
  match e with
  | .normal => some (true, .ready, none)
  | .ret => some (false, .done, some .ret)
  | .exit i => some (false, .done, some (.exit i))
  | .goto i => some (false, .done, some (.goto i))
  | _ => none

/-- Calling yield: a round. -/
theorem opOk_yield {r : Option Nat} {o : Oper} {tm : List Value} {nx : Nat} {cf : Operand} {args : Array Operand} {ats : Array TypeId} (ho : o.op = .call { callee := .value cf, args := args, argTypes := ats })
    {l : Nat} {vs : List Value} {L L1 L2 : Loop} {R1 R2 : Res} {b : Bool} {s : LoopState} {p : Option Code}
    (hcf : opv tm cf = some (.func (.yield l) #[] #[])) (hvs : opvs tm args.toList = some vs) (hl : H.get l = some (.loop L)) (hn : vs.length = L.params.size)
    (h1 : CodeOk P (some l) L.assign (setParams L.params.toList vs L.tmps.toList) [] H nx R1) (he1 : R1.e = .normal) (hd1 : R1.ds = [])
    (hl1 : R1.H.get l = some (.loop L1)) (hst : L1.state = .ready)
    (h2 : CodeOk P (some l) L.body R1.tm [] (R1.H.set l (.loop { L1 with state := .busy })) R1.nx R2)
    (hl2 : R2.H.get l = some (.loop L2)) (he2 : roundEnd R2.e = some (b, s, p)) :
    OpOk P r o tm H nx (.bool b) (R2.H.set l (.loop { L2 with state := s, pending := p })) R2.nx := by
  refine ⟨Nat.le_trans h1.1 h2.1, fun φ w K a rc next Q g hf ht hr hk => ⟨about_fw, ?_⟩⟩
  have hcv := opv_rel ht hcf
  obtain ⟨fn', ys, us0, hev, hfr, e1, e2⟩ := hcv.func_inv
  cases hfr with
  | yield _ Lc hLc =>
  have hys : ys = #[] := Array.eq_empty_of_size_eq_zero (by have := e1.length; simp at this; exact this.symm)
  have hvr := opvs_rel ht hvs
  obtain ⟨l', k1, k2, k3, k4, k5, k6, k7, k8⟩ := loop_set g hl hLc
  have hgl : ∀ (w : World) (lr : Loop), w.heap[Lc.blk]? = some (.loop lr) → (Instr.getLoop Lc.blk).run P w = .ok lr w := fun w lr h => by
    simp [Instr.getLoop, getObj, Sem.run, h]
  have hrun : (execOp a.eval o).run P w = .ok (.round Lc.blk l'.fn (((l'.params.zip (args.map a.eval)).foldl (fun tmps (x : Tmp × Value) => tmps.setIfInBounds x.1 x.2) l'.tmps)) l'.assign l'.body) w := by
    unfold execOp
    have hsz : (args.map a.eval).size = l'.params.size := by
      have := hvr.length
      simp at this
      rw [k5, ← hn, this]; simp
    simp only [ho, resolve, hev, Deferred.ofValue, Sem.run_bind, Sem.run_pure, Result.andThen_ok, invoke, Instr.yield, hgl w l' k1, hys, Array.empty_append, hsz, ne_eq, not_true_eq_false, if_false]
  rw [Oper.semAt_eq _ _ _ (fun c hc => by rw [ho] at hc; cases hc), hrun]
  refine ⟨fun h0 => by simp [fw, Fence.wide] at h0, ?_⟩
  refine roundIn_of_wpIn (F := fw rc) trivial ?_
  rw [k6, k7]
  have ht0 : TRel φ (setParams L.params.toList vs L.tmps.toList) ((l'.params.zip (args.map a.eval)).foldl (fun tmps (x : Tmp × Value) => tmps.setIfInBounds x.1 x.2) l'.tmps) := by
    rw [k5, ← Array.foldl_toList, Array.toList_zip]
    exact setParams_rel (by simpa using hvr) k4
  have hw1 := h1.2 φ w K { tmps := (l'.params.zip (args.map a.eval)).foldl (fun tmps (x : Tmp × Value) => tmps.setIfInBounds x.1 x.2) l'.tmps, defers := [] } (some Lc.blk) g (hf.left h2.1) ht0 trivial ⟨Lc, hLc, rfl⟩
  refine wpIn_mono hw1 ?_
  rintro e a1 w1 ⟨rfl, φ1, x1, x2, x3, x4, x5⟩
  rw [he1]
  have hLc1 := x1.1 _ _ hLc
  obtain ⟨l1', y1, y2, y3, y4, y5, y6, y7, y8⟩ := loop_set x2 hl1 hLc1
  obtain ⟨z1, z2⟩ := y8 .busy L1.pending
  have hsame : ({ l1' with state := .busy, pending := L1.pending } : Loop) = { l1' with state := .busy } := by rw [← y3]
  rw [hsame] at z1 z2
  refine ⟨_, by simp [Instr.beginRound, hgl w1 l1' y1, setObj, Sem.run, y1, y2, hst, Sem.run_bind]; rfl, ?_⟩
  have hd1' : a1.defers = [] := by rw [hd1] at x4; revert x4; cases a1.defers <;> simp [DRel]
  have hw2 := h2.2 φ1 _ K a1 (some Lc.blk) z1 (hf.right x1 h1.1) x3 (by rw [hd1']; trivial) ⟨Lc, hLc1, rfl⟩
  refine wpIn_mono hw2 ?_
  rintro e a2 w2 ⟨rfl, φ2, u1, u2, u3, u4, u5⟩
  have hLc2 := u1.1 _ _ hLc1
  obtain ⟨l2', v1, v2, v3, v4, v5, v6, v7, v8⟩ := loop_set u2 hl2 hLc2
  have fin : ∀ (jump : Option Code), p = jump → (s = if jump.isNone then .ready else .done) → b = jump.isNone → ∃ v w', (Instr.endRound Lc.blk jump).run P w2 = .ok v w' ∧ (fun e w'' => match e with
      | .returned v => next (a.put o.dst v) w''
      | .panicked chain => Q (.panic chain) a w''
      | .outgrown => LetsOut Q : Ending → World → Prop) (.returned v) w' := by
    rintro jump rfl rfl rfl
    obtain ⟨q1, q2⟩ := v8 (if p.isNone then .ready else .done) p
    refine ⟨.bool p.isNone, { w2 with heap := w2.heap.setIfInBounds Lc.blk (.loop { l2' with state := if p.isNone then .ready else .done, pending := p }) }, ?_, ?_⟩
    · simp only [Instr.endRound, Sem.run_bind, hgl w2 l2' v1, Result.andThen_ok, setObj, Sem.run, v1, Sem.run_pure]
    exact hk _ φ2 _ (.bool _) (x1.trans u1 h1.1 h2.1) q1 (((x5.trans z2).trans u5).trans q2)
  cases hE : R2.e with
  | normal => rw [hE] at he2; cases he2; exact fin none rfl rfl rfl
  | ret => rw [hE] at he2; cases he2; exact fin (some .ret) rfl rfl rfl
  | exit i => rw [hE] at he2; cases he2; exact fin (some (.exit i)) rfl rfl rfl
  | goto i => rw [hE] at he2; cases he2; exact fin (some (.goto i)) rfl rfl rfl
  | panic c => rw [hE] at he2; cases he2
  | outgrown => rw [hE] at he2; cases he2
end Go.En
