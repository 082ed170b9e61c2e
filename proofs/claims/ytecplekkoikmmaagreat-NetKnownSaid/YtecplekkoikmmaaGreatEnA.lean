/- The engine, part A: abstract values and blocks, the relation to the world. Generic over the program. -/
import Derived.RangeFuncLeaves
import Derived.Below
import Derived.Test.YtecplekkoikmmaaGreatEnFP
noncomputable section
namespace Go.En
set_option linter.unusedVariables false

/-- Where a name lies in the world: block, first cell, end of the capacity (in cells). -/
structure Loc where
  blk : Nat
  off : Nat
  lim : Nat

abbrev Ren := Nat → Option Loc

/-- From here on a capacity is 'open': known in the world alone; what it says above this number is the cells of an element. -/
def openCap : Nat := 18446744073709551616

inductive FnRel (φ : Ren) : Fn → Fn → Prop
  | func (f : FuncId) : FnRel φ (.func f) (.func f)
  | method (n : String) : FnRel φ (.method n) (.method n)
  | methodOf (t : TypeId) (n : String) : FnRel φ (.methodOf t n) (.methodOf t n)
  | via (t : TypeId) (p : Array FieldStep) (f : FuncId) (b : Bool) : FnRel φ (.via t p f b) (.via t p f b)
  | yield (l : Nat) (L : Loc) (h : φ l = some L) : FnRel φ (.yield l) (.yield L.blk)

inductive VRel (φ : Ren) : Value → Value → Prop
  | bool (b : Bool) : VRel φ (.bool b) (.bool b)
  | int (k : IntKind) (n : Int) : VRel φ (.int k n) (.int k n)
  | float (k : FloatKind) (n : Nat) : VRel φ (.float k n) (.float k n)
  | str (s : ByteArray) : VRel φ (.string s) (.string s)
  | ptrN : VRel φ (.pointer none) (.pointer none)
  | ptr (b o : Nat) (L : Loc) (h : φ b = some L) : VRel φ (.pointer (some ⟨b, o, none⟩)) (.pointer (some ⟨L.blk, L.off + o, none⟩))
  | slN (n c : Nat) : VRel φ (.slice none n c) (.slice none n c)
  | sl (b o n c : Nat) (L : Loc) (h : φ b = some L) (hc : c < openCap) :
      VRel φ (.slice (some ⟨b, o, none⟩) n c) (.slice (some ⟨L.blk, L.off + o, none⟩) n c)
  | slO (b o n c c' : Nat) (L : Loc) (h : φ b = some L) (hc : openCap ≤ c) (hn : n ≤ c') (hl : L.off + o + c' * (c - openCap) = L.lim) :
      VRel φ (.slice (some ⟨b, o, none⟩) n c) (.slice (some ⟨L.blk, L.off + o, none⟩) n c')
  | slE (b o c : Nat) (a' : Addr) (L : Loc) (h : φ b = some L) (hc : openCap ≤ c) : VRel φ (.slice (some ⟨b, o, none⟩) 0 c) (.slice (some a') 0 0)
  | mapN : VRel φ (.map none) (.map none)
  | map (r : Nat) (L : Loc) (h : φ r = some L) : VRel φ (.map (some r)) (.map (some L.blk))
  | func (fn fn' : Fn) (xs ys zs us : Array Value) (hf : FnRel φ fn fn') (hs : xs.size = ys.size) (h : ∀ (i : Nat) v v', xs[i]? = some v → ys[i]? = some v' → VRel φ v v')
      (hs' : zs.size = us.size) (h' : ∀ (i : Nat) v v', zs[i]? = some v → us[i]? = some v' → VRel φ v v') : VRel φ (.func fn xs zs) (.func fn' ys us)
  | nilFunc : VRel φ .nilFunc .nilFunc
  | nilIface : VRel φ .nilIface .nilIface
  | iface (t : TypeId) (v v' : Value) (h : VRel φ v v') : VRel φ (.iface t v) (.iface t v')
  | agg (xs ys : Array Value) (hs : xs.size = ys.size) (h : ∀ (i : Nat) v v', xs[i]? = some v → ys[i]? = some v' → VRel φ v v') : VRel φ (.agg xs) (.agg ys)
  | tuple (xs ys : Array Value) (hs : xs.size = ys.size) (h : ∀ (i : Nat) v v', xs[i]? = some v → ys[i]? = some v' → VRel φ v v') : VRel φ (.tuple xs) (.tuple ys)

/-- φ' knows what φ knew. -/
def Ren.le (φ φ' : Ren) : Prop := ∀ b L, φ b = some L → φ' b = some L

theorem Ren.le_refl (φ : Ren) : φ.le φ := fun _ _ h => h
theorem Ren.le_trans {φ φ' φ'' : Ren} (h : φ.le φ') (k : φ'.le φ'') : φ.le φ'' := fun b L hb => k b L (h b L hb)

theorem FnRel.mono {φ φ' : Ren} (hl : φ.le φ') {f f' : Fn} (h : FnRel φ f f') : FnRel φ' f f' := by
  cases h with
  | func f => exact .func f
  | method n => exact .method n
  | methodOf t n => exact .methodOf t n
  | via t p f b => exact .via t p f b
  | yield l L h => exact .yield l L (hl _ _ h)

theorem VRel.mono {φ φ' : Ren} (hl : φ.le φ') {v v' : Value} (h : VRel φ v v') : VRel φ' v v' := by
  induction h with
  | bool b => exact .bool b
  | int k n => exact .int k n
  | float k n => exact .float k n
  | str s => exact .str s
  | ptrN => exact .ptrN
  | ptr b o L h => exact .ptr b o L (hl _ _ h)
  | slN n c => exact .slN n c
  | sl b o n c L h hc => exact .sl b o n c L (hl _ _ h) hc
  | slO b o n c c' L h hc hn hlim => exact .slO b o n c c' L (hl _ _ h) hc hn hlim
  | slE b o c a' L h hc => exact .slE b o c a' L (hl _ _ h) hc
  | mapN => exact .mapN
  | map r L h => exact .map r L (hl _ _ h)
  | func fn fn' xs ys zs us hf hs h hs' h' ih ih' => exact .func fn fn' xs ys zs us (hf.mono hl) hs ih hs' ih'
  | nilFunc => exact .nilFunc
  | nilIface => exact .nilIface
  | iface t v v' h ih => exact .iface t v v' ih
  | agg xs ys hs h ih => exact .agg xs ys hs ih
  | tuple xs ys hs h ih => exact .tuple xs ys hs ih

/-- Lists, cell by cell. -/
def LRel (φ : Ren) : List Value → List Value → Prop
  | [], [] => True
  | x :: xs, y :: ys => VRel φ x y ∧ LRel φ xs ys
  | _, _ => False

theorem LRel.length {φ : Ren} : ∀ {xs ys : List Value}, LRel φ xs ys → xs.length = ys.length
  | [], [], _ => rfl
  | _ :: xs, _ :: ys, h => by simp [LRel.length h.2]
  | [], _ :: _, h => h.elim
  | _ :: _, [], h => h.elim

theorem LRel.mono {φ φ' : Ren} (hl : φ.le φ') : ∀ {xs ys : List Value}, LRel φ xs ys → LRel φ' xs ys
  | [], [], _ => trivial
  | _ :: _, _ :: _, h => ⟨h.1.mono hl, LRel.mono hl h.2⟩
  | [], _ :: _, h => h.elim
  | _ :: _, [], h => h.elim

theorem LRel.get {φ : Ren} : ∀ {xs ys : List Value}, LRel φ xs ys → ∀ {i : Nat} {v : Value}, xs[i]? = some v → ∃ v', ys[i]? = some v' ∧ VRel φ v v'
  | [], [], _, i, v, h => by simp at h
  | x :: xs, y :: ys, h, 0, v, hv => by simp at hv; subst hv; exact ⟨y, rfl, h.1⟩
  | x :: xs, y :: ys, h, i + 1, v, hv => by simp at hv ⊢; exact LRel.get h.2 hv
  | [], _ :: _, h, _, _, _ => h.elim
  | _ :: _, [], h, _, _, _ => h.elim

theorem LRel.of_get {φ : Ren} : ∀ {xs ys : List Value}, xs.length = ys.length → (∀ (i : Nat) v v', xs[i]? = some v → ys[i]? = some v' → VRel φ v v') → LRel φ xs ys
  | [], [], _, _ => trivial
  | x :: xs, y :: ys, hl, h => ⟨h 0 x y rfl rfl, LRel.of_get (by simpa using hl) fun i v v' hv hv' => h (i + 1) v v' (by simpa using hv) (by simpa using hv')⟩
  | [], _ :: _, h, _ => by simp at h
  | _ :: _, [], h, _ => by simp at h

theorem LRel.append {φ : Ren} : ∀ {xs ys zs us : List Value}, LRel φ xs ys → LRel φ zs us → LRel φ (xs ++ zs) (ys ++ us)
  | [], [], _, _, _, h => h
  | _ :: _, _ :: _, _, _, h, k => ⟨h.1, LRel.append h.2 k⟩
  | [], _ :: _, _, _, h, _ => h.elim
  | _ :: _, [], _, _, h, _ => h.elim

theorem LRel.take {φ : Ren} : ∀ (n : Nat) {xs ys : List Value}, LRel φ xs ys → LRel φ (xs.take n) (ys.take n)
  | 0, _, _, _ => by simp [LRel]
  | n + 1, [], [], _ => by simp [LRel]
  | n + 1, _ :: _, _ :: _, h => by simpa [LRel] using ⟨h.1, LRel.take n h.2⟩
  | n + 1, [], _ :: _, h => h.elim
  | n + 1, _ :: _, [], h => h.elim

theorem LRel.drop {φ : Ren} : ∀ (n : Nat) {xs ys : List Value}, LRel φ xs ys → LRel φ (xs.drop n) (ys.drop n)
  | 0, _, _, h => by simpa using h
  | n + 1, [], [], _ => by simp [LRel]
  | n + 1, _ :: _, _ :: _, h => by simpa using LRel.drop n h.2
  | n + 1, [], _ :: _, h => h.elim
  | n + 1, _ :: _, [], h => h.elim

theorem LRel.set {φ : Ren} {v v' : Value} (hv : VRel φ v v') : ∀ (n : Nat) {xs ys : List Value}, LRel φ xs ys → LRel φ (xs.set n v) (ys.set n v')
  | _, [], [], _ => by simp [LRel]
  | 0, _ :: _, _ :: _, h => by simpa [LRel] using ⟨hv, h.2⟩
  | n + 1, _ :: _, _ :: _, h => by simpa [LRel] using ⟨h.1, LRel.set hv n h.2⟩
  | _, [], _ :: _, h => h.elim
  | _, _ :: _, [], h => h.elim

theorem VRel.agg' {φ : Ren} {xs ys : Array Value} (h : LRel φ xs.toList ys.toList) : VRel φ (.agg xs) (.agg ys) := by
  refine .agg _ _ (by simpa using h.length) fun i v v' hv hv' => ?_
  obtain ⟨u, hu, hr⟩ := h.get (i := i) (v := v) (by simpa using hv)
  have : u = v' := by simpa [hv'] using hu.symm
  exact this ▸ hr
theorem VRel.tuple' {φ : Ren} {xs ys : Array Value} (h : LRel φ xs.toList ys.toList) : VRel φ (.tuple xs) (.tuple ys) := by
  refine .tuple _ _ (by simpa using h.length) fun i v v' hv hv' => ?_
  obtain ⟨u, hu, hr⟩ := h.get (i := i) (v := v) (by simpa using hv)
  have : u = v' := by simpa [hv'] using hu.symm
  exact this ▸ hr
theorem VRel.func' {φ : Ren} {fn fn' : Fn} {xs ys zs us : Array Value} (hf : FnRel φ fn fn') (h : LRel φ xs.toList ys.toList) (k : LRel φ zs.toList us.toList) : VRel φ (.func fn xs zs) (.func fn' ys us) := by
  refine .func _ _ _ _ _ _ hf (by simpa using h.length) (fun i v v' hv hv' => ?_) (by simpa using k.length) (fun i v v' hv hv' => ?_)
  · obtain ⟨u, hu, hr⟩ := h.get (i := i) (v := v) (by simpa using hv)
    have : u = v' := by simpa [hv'] using hu.symm
    exact this ▸ hr
  · obtain ⟨u, hu, hr⟩ := k.get (i := i) (v := v) (by simpa using hv)
    have : u = v' := by simpa [hv'] using hu.symm
    exact this ▸ hr

theorem lrel_of_arr {φ : Ren} {xs ys : Array Value} (hs : xs.size = ys.size) (h : ∀ (i : Nat) v v', xs[i]? = some v → ys[i]? = some v' → VRel φ v v') : LRel φ xs.toList ys.toList :=
  LRel.of_get (by simpa using hs) fun i v v' hv hv' => h i v v' (by simpa using hv) (by simpa using hv')

theorem VRel.agg_inv {φ : Ren} {xs : Array Value} {v' : Value} (h : VRel φ (.agg xs) v') : ∃ ys, v' = .agg ys ∧ LRel φ xs.toList ys.toList := by
  cases h with
  | agg xs ys hs h => exact ⟨ys, rfl, lrel_of_arr hs h⟩
theorem VRel.tuple_inv {φ : Ren} {xs : Array Value} {v' : Value} (h : VRel φ (.tuple xs) v') : ∃ ys, v' = .tuple ys ∧ LRel φ xs.toList ys.toList := by
  cases h with
  | tuple xs ys hs h => exact ⟨ys, rfl, lrel_of_arr hs h⟩
theorem VRel.func_inv {φ : Ren} {fn : Fn} {xs zs : Array Value} {v' : Value} (h : VRel φ (.func fn xs zs) v') :
    ∃ fn' ys us, v' = .func fn' ys us ∧ FnRel φ fn fn' ∧ LRel φ xs.toList ys.toList ∧ LRel φ zs.toList us.toList := by
  cases h with
  | func fn fn' xs ys zs us hf hs h hs' h' => exact ⟨fn', ys, us, rfl, hf, lrel_of_arr hs h, lrel_of_arr hs' h'⟩

/-- Address-free values: related to themselves alone. -/
def av1 : Value → Bool
  | .bool _ | .int _ _ | .float _ _ | .string _ | .pointer none | .slice none _ _ | .map none | .nilFunc | .nilIface => true
  | _ => false
def avL : List Value → Bool
  | [] => true
  | v :: r => av1 v && avL r
def av : Value → Bool
  | .agg cs => avL cs.toList
  | .tuple cs => avL cs.toList
  | .func (.func _) a b => a.toList.isEmpty && b.toList.isEmpty
  | v => av1 v

theorem av1_rel {φ : Ren} {v : Value} (h : av1 v = true) : VRel φ v v := by
  cases v with
  | bool b => exact .bool b
  | int k n => exact .int k n
  | float k n => exact .float k n
  | string s => exact .str s
  | pointer a => cases a with
    | none => exact .ptrN
    | some a => simp [av1] at h
  | slice a n c => cases a with
    | none => exact .slN n c
    | some a => simp [av1] at h
  | map r => cases r with
    | none => exact .mapN
    | some r => simp [av1] at h
  | nilFunc => exact .nilFunc
  | nilIface => exact .nilIface
  | _ => simp [av1] at h
theorem avL_rel {φ : Ren} : ∀ {xs : List Value}, avL xs = true → LRel φ xs xs
  | [], _ => trivial
  | x :: xs, h => by
    simp [avL] at h
    exact ⟨av1_rel h.1, avL_rel h.2⟩
theorem av_rel {φ : Ren} {v : Value} (h : av v = true) : VRel φ v v := by
  cases v with
  | agg cs => exact .agg' (avL_rel h)
  | tuple cs => exact .tuple' (avL_rel h)
  | func f a b =>
    cases f with
    | func f => 
      simp [av] at h
      obtain ⟨rfl, rfl⟩ := h
      exact .func' (.func f) (by simp [LRel]) (by simp [LRel])
    | _ => simp [av, av1] at h
  | _ => exact av1_rel (by simpa [av] using h)
theorem av1_eq {φ : Ren} {v v' : Value} (h : av1 v = true) (hr : VRel φ v v') : v' = v := by
  cases hr <;> first | rfl | simp [av1] at h
theorem avL_eq {φ : Ren} : ∀ {xs ys : List Value}, avL xs = true → LRel φ xs ys → ys = xs
  | [], [], _, _ => rfl
  | x :: xs, y :: ys, h, hr => by
    simp [avL] at h
    rw [av1_eq h.1 hr.1, avL_eq h.2 hr.2]
  | [], _ :: _, _, h => h.elim
  | _ :: _, [], _, h => h.elim
theorem av_eq {φ : Ren} {v v' : Value} (h : av v = true) (hr : VRel φ v v') : v' = v := by
  cases v with
  | agg cs =>
    obtain ⟨ys, rfl, hl⟩ := hr.agg_inv
    have := avL_eq h hl
    rw [Array.toList_inj.1 this]
  | tuple cs =>
    obtain ⟨ys, rfl, hl⟩ := hr.tuple_inv
    have := avL_eq h hl
    rw [Array.toList_inj.1 this]
  | func f a b =>
    cases f with
    | func f =>
      simp [av] at h
      obtain ⟨rfl, rfl⟩ := h
      obtain ⟨fn', ys, us, rfl, hf, h1, h2⟩ := hr.func_inv
      cases hf
      have h1 := h1.length
      have h2 := h2.length
      simp at h1 h2
      rw [Array.eq_empty_of_size_eq_zero h1.symm, Array.eq_empty_of_size_eq_zero h2.symm]
    | _ => simp [av, av1] at h
  | _ => exact av1_eq (by simpa [av] using h) hr

/-- A slot of which nothing is known. -/
def junk : Value := .complex .f32 0 0

theorem not_rel_junk {φ : Ren} {v' : Value} (h : VRel φ junk v') : False := by cases h

/-- Abstract temporaries. -/
def TRel (φ : Ren) (tm : List Value) (ts : Array Value) : Prop :=
  tm.length = ts.size ∧ ∀ (i : Nat) v, tm[i]? = some v → v = junk ∨ ∃ v', ts[i]? = some v' ∧ VRel φ v v'

theorem TRel.mono {φ φ' : Ren} (hl : φ.le φ') {tm : List Value} {ts : Array Value} (h : TRel φ tm ts) : TRel φ' tm ts :=
  ⟨h.1, fun i v hv => (h.2 i v hv).imp id fun ⟨v', h1, h2⟩ => ⟨v', h1, h2.mono hl⟩⟩

theorem TRel.set {φ : Ren} {tm : List Value} {ts : Array Value} (h : TRel φ tm ts) (i : Nat) {v v' : Value} (hv : VRel φ v v') : TRel φ (tm.set i v) (ts.setIfInBounds i v') := by
  refine ⟨by simp [h.1], fun j u hu => ?_⟩
  rw [List.getElem?_set] at hu
  by_cases hij : i = j
  · subst hij
    simp at hu
    obtain ⟨hlt, rfl⟩ := hu
    exact .inr ⟨v', by rw [Array.getElem?_setIfInBounds]; simp [← h.1, hlt], hv⟩
  · simp [hij] at hu
    rcases h.2 j u hu with h0 | ⟨u', h1, h2⟩
    · exact .inl h0
    · exact .inr ⟨u', by rw [Array.getElem?_setIfInBounds]; simp [hij, h1], h2⟩

/-- Blocks. -/
inductive Blk where
  | cells (cs : List Value) (ro : Bool)
  | loop (l : Loop)
  | defd
  | hid
  /-- a map: keys, values, when born; its clock -/
  | mp (es : List (Value × Value × Nat)) (clock : Nat)
  /-- the beginning of an iteration over a map -/
  | iter (m : Nat) (clock : Nat)

def Blk.rw : Blk → Bool
  | .cells _ ro => !ro
  | .hid => false
  | _ => true

abbrev Hp := List (Nat × Blk)

def Hp.get (H : Hp) (n : Nat) : Option Blk := List.rec (motive := fun _ => Option Blk) none (fun x _ ih => bif Nat.beq x.1 n then some x.2 else ih) H
theorem Hp.get_nil (n : Nat) : Hp.get [] n = none := rfl
theorem Hp.get_cons (b : Nat) (k : Blk) (r : Hp) (n : Nat) : Hp.get ((b, k) :: r) n = if b == n then some k else Hp.get r n := by
  show (bif Nat.beq b n then some k else Hp.get r n) = _
  cases h : Nat.beq b n with
  | true =>
    have : b = n := Nat.eq_of_beq_eq_true h
    subst this
    simp
  | false =>
    have : b ≠ n := Nat.ne_of_beq_eq_false h
    simp [this]

/-- A map's entries. -/
def ERel (φ : Ren) : List (Value × Value × Nat) → List MapEntry → Prop
  | [], [] => True
  | (k, v, b) :: r, e :: s => e.key = k ∧ VRel φ v e.val ∧ ERel φ r s
  | _, _ => False
theorem ERel.mono {φ φ' : Ren} (hl : φ.le φ') : ∀ {es : List (Value × Value × Nat)} {xs : List MapEntry}, ERel φ es xs → ERel φ' es xs
  | [], [], _ => trivial
  | (k, v, b) :: r, e :: s, h => ⟨h.1, h.2.1.mono hl, ERel.mono hl h.2.2⟩
  | [], _ :: _, h => h.elim
  | (_, _, _) :: _, [], h => h.elim
/-- A map's entries, in any order. -/
def MRel (φ : Ren) (es : List (Value × Value × Nat)) (xs : List MapEntry) : Prop := (∃ ys, ys.Perm xs ∧ ERel φ es ys) ∧ (∃ k, KindK k xs) ∧ Apart xs
theorem MRel.mono {φ φ' : Ren} (hl : φ.le φ') {es : List (Value × Value × Nat)} {xs : List MapEntry} (h : MRel φ es xs) : MRel φ' es xs := by
  obtain ⟨⟨ys, h1, h2⟩, h3⟩ := h
  exact ⟨⟨ys, h1, h2.mono hl⟩, h3⟩
theorem MRel.nil (φ : Ren) : MRel φ [] [] := ⟨⟨[], .refl _, trivial⟩, ⟨.i64, fun x hx => by cases hx⟩, .nil⟩
/-- When the entries were born: before the clock, no two at once. -/
def Born (cl : Nat) (xs : List MapEntry) : Prop := (∀ x ∈ xs, x.born < cl) ∧ (xs.map (·.born)).Nodup
/-- What a block's place in the world holds. -/
def BRel (φ : Ren) (w : World) (L : Loc) : Blk → Prop
  | .cells cs ro => ∃ arr el fr, w.heap[L.blk]? = some (.cells arr el fr) ∧ (∀ (j : Nat) v, cs[j]? = some v → ∃ v', arr[L.off + j]? = some v' ∧ VRel φ v v') ∧
      (ro = false → fr = (0, 0) ∧ L.lim ≤ arr.size)
  | .loop l => ∃ l' : Loop, w.heap[L.blk]? = some (.loop l') ∧ l'.state = l.state ∧ l'.pending = l.pending ∧ TRel φ l.tmps.toList l'.tmps ∧ l'.params = l.params ∧ l'.assign = l.assign ∧ l'.body = l.body ∧
      ∃ D, φ l.defers = some D ∧ l'.defers = D.blk
  | .defd => w.heap[L.blk]? = some (.deferred (some []))
  | .hid => ∃ o, w.heap[L.blk]? = some o
  | .mp es cl => ∃ (es' : Array MapEntry), w.heap[L.blk]? = some (.map es' cl) ∧ MRel φ es es'.toList ∧ Born cl es'.toList
  | .iter m cl => ∃ M, φ m = some M ∧ L.off = 0 ∧ w.heap[L.blk]? = some (.mapIter (some M.blk) cl #[] cl)

structure Good (φ : Ren) (H : Hp) (K : Nat → Prop) (w : World) : Prop where
  rel : ∀ b k, H.get b = some k → ∃ L, φ b = some L ∧ BRel φ w L k
  sep : ∀ b c k k' L L', H.get b = some k → H.get c = some k' → b ≠ c → k.rw = true → φ b = some L → φ c = some L' → L.blk ≠ L'.blk
  prot : ∀ b k L, H.get b = some k → k.rw = true → φ b = some L → ¬ K L.blk
  kin : ∀ c, K c → c < w.heap.size

/-- The world has gone on; what K protects has stayed. -/
structure Went (K : Nat → Prop) (w w' : World) : Prop where
  os : w'.os = w.os
  tape : w'.tape = w.tape
  output : w'.output = w.output
  size : w.heap.size ≤ w'.heap.size
  kept : ∀ c, K c → w'.heap[c]? = w.heap[c]?

theorem Went.refl (K : Nat → Prop) (w : World) : Went K w w := ⟨rfl, rfl, rfl, Nat.le_refl _, fun _ _ => rfl⟩
theorem Went.trans {K : Nat → Prop} {a b c : World} (h : Went K a b) (k : Went K b c) : Went K a c :=
  ⟨k.os.trans h.os, k.tape.trans h.tape, k.output.trans h.output, Nat.le_trans h.size k.size, fun i hi => (k.kept i hi).trans (h.kept i hi)⟩

/-- Names from lo to hi are new in φ. -/
def Fresh (φ : Ren) (lo hi : Nat) : Prop := ∀ b, lo ≤ b → b < hi → φ b = none
/-- φ' is φ but for the names from lo to hi. -/
def Ext (φ φ' : Ren) (lo hi : Nat) : Prop := φ.le φ' ∧ ∀ b, b < lo ∨ hi ≤ b → φ' b = φ b

theorem Ext.refl (φ : Ren) (lo hi : Nat) : Ext φ φ lo hi := ⟨Ren.le_refl φ, fun _ _ => rfl⟩
theorem Ext.trans {φ φ' φ'' : Ren} {lo mi hi : Nat} (h : Ext φ φ' lo mi) (k : Ext φ' φ'' mi hi) (h1 : lo ≤ mi) (h2 : mi ≤ hi) : Ext φ φ'' lo hi :=
  ⟨Ren.le_trans h.1 k.1, fun b hb => by rw [k.2 b (by omega), h.2 b (by omega)]⟩
theorem Fresh.left {φ : Ren} {lo mi hi : Nat} (h : Fresh φ lo hi) (h2 : mi ≤ hi) : Fresh φ lo mi := fun b h3 h4 => h b h3 (by omega)
theorem Fresh.right {φ φ' : Ren} {lo mi hi : Nat} (h : Fresh φ lo hi) (he : Ext φ φ' lo mi) (h1 : lo ≤ mi) : Fresh φ' mi hi := fun b h3 h4 => by
  rw [he.2 b (.inr h3)]; exact h b (by omega) h4

end Go.En
