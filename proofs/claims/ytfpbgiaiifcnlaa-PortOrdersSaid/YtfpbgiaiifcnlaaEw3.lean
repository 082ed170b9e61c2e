/- Parts of a proof, joined: A, B, C, D, E, F, G, H, I, J, K. -/
import Derived.IntWalk
import Derived.Test.YtfpbgiaiifcnlaaEw2
/- The symbolic engine, part A: typed data, symbolic values and blocks, and what they stand for. -/
noncomputable section
namespace Go.Fz.Sy
set_option linter.unusedVariables false
set_option linter.unusedSimpArgs false

/-- Types of data, cell by cell. -/
inductive Ty where
  | unit
  | bool
  | int (k : IntKind)
  | str
  | list (t : Ty)
  | pair (a b : Ty)
  deriving DecidableEq
/-- The data of a type. -/
@[reducible] def T (t : Ty) : Type := Ty.rec (motive := fun _ => Type) Unit Bool (fun _ => Int) ByteArray (fun _ ih => List ih) (fun _ _ a b => a × b) t
def castT {a b : Ty} (h : a = b) (x : T a) : T b := Eq.rec (motive := fun b _ => T b) x h
def castL {a b : Ty} (h : a = b) (x : List (T a)) : List (T b) := Eq.rec (motive := fun b _ => List (T b)) x h
/-- How many cells. -/
def sz : Ty → Nat
  | .unit => 0
  | .bool => 1
  | .int _ => 1
  | .str => 1
  | .list _ => 1
  | .pair a b => sz a + sz b

def fzV (s : Nat) (full : Bool) (es : List Value) : Value := .iface s (bif full then .agg es.toArray else .tuple es.toArray)
/-- The cells of a datum. -/
def encC : (t : Ty) → T t → List Value
  | .unit, _ => []
  | .bool, b => [.bool b]
  | .int k, n => [.int k n]
  | .str, s => [.string s]
  | .list t, l => [fzV (sz t) false (List.map (fun x => Value.agg (encC t x).toArray) l)]
  | .pair a b, x => encC a x.1 ++ encC b x.2
theorem encC_len : ∀ (t : Ty) (x : T t), (encC t x).length = sz t
  | .unit, _ => rfl
  | .bool, _ => rfl
  | .int _, _ => rfl
  | .str, _ => rfl
  | .list _, _ => rfl
  | .pair a b, x => by simp [encC, sz, encC_len a, encC_len b]
def encE (t : Ty) (x : T t) : Value := .agg (encC t x).toArray

/-- Symbolic values. -/
inductive SV where
  | bool (b : Bool)
  | int (k : IntKind) (n : Int)
  | str (s : ByteArray)
  | agg (cs : List SV)
  | tup (vs : List SV)
  | ptr (b o : Nat)
  | nilp
  /-- a frozen list -/
  | lst (t : Ty) (l : List (T t)) (full : Bool)
  /-- a whole array of ours, as a slice -/
  | own (b : Nat)
  | nils
  /-- a cell of an element of an array of ours -/
  | elp (b s i k : Nat)
  /-- a cell of a frozen element -/
  | fel (t : Ty) (x : T t) (k : Nat)
  | fn (f : Nat) (fs cs : List SV)
  | yld (l : Nat)
  | nilf
  | mp (b : Nat)
  | junk

/-- A cell that nothing in the world is related to. -/
def bad : Value := .complex .f64 1 0
theorem not_rel_bad {φ : Ren} {v' : Value} (h : VRel φ bad v') : False := by cases h

mutual
/-- What a symbolic value stands for; of a slice of ours, ρ tells. -/
def den (ρ : Nat → Value) : SV → Value
  | .bool b => .bool b
  | .int k n => .int k n
  | .str s => .string s
  | .agg cs => .agg (denL ρ cs).toArray
  | .tup vs => .tuple (denL ρ vs).toArray
  | .ptr b o => .pointer (some ⟨b, o, none⟩)
  | .nilp => .pointer none
  | .lst t l full => fzV (sz t) full (l.map (encE t))
  | .own b => ρ b
  | .nils => .slice none 0 0
  | .elp b s i k => .pointer (some ⟨b, i * s + k, none⟩)
  | .fel t x k => .iface k (.iface 0 (encE t x))
  | .fn f fs cs => .func (.func f) (denL ρ fs).toArray (denL ρ cs).toArray
  | .yld l => .func (.yield l) #[] #[]
  | .nilf => .nilFunc
  | .mp b => .map (some b)
  | .junk => Fz.junk
def denL (ρ : Nat → Value) : List SV → List Value
  | [] => []
  | v :: r => den ρ v :: denL ρ r
end
theorem denL_map (ρ : Nat → Value) : ∀ l : List SV, denL ρ l = l.map (den ρ)
  | [] => by simp [denL]
  | v :: r => by simp [denL, denL_map ρ r]

/-- The cells of a datum, symbolic. -/
def encL : (t : Ty) → T t → List SV
  | .unit, _ => []
  | .bool, b => [.bool b]
  | .int k, n => [.int k n]
  | .str, s => [.str s]
  | .list t, l => [.lst t l false]
  | .pair a b, x => encL a x.1 ++ encL b x.2
theorem encL_den (ρ : Nat → Value) : ∀ (t : Ty) (x : T t), (encL t x).map (den ρ) = encC t x
  | .unit, _ => rfl
  | .bool, _ => by simp [encL, den, encC]
  | .int _, _ => by simp [encL, den, encC]
  | .str, _ => by simp [encL, den, encC]
  | .list t, l => by simp only [encL, List.map_cons, den, List.map_nil, encC]; rfl
  | .pair a b, x => by simp [encL, encC, encL_den ρ a, encL_den ρ b]
theorem encL_len (t : Ty) (x : T t) : (encL t x).length = sz t := by
  have := congrArg List.length (encL_den (fun _ => .nilFunc) t x)
  simpa [encC_len] using this

/-- The record of a loop over a function. -/
structure SL where
  tm : List SV
  params : Array Tmp
  assign : Code
  body : Code
  st : LoopState
  pend : Option Code
  dfr : Nat
/-- Symbolic blocks. -/
inductive SB where
  | vars (cs : List SV)
  /-- the same, to read alone -/
  | ro (cs : List SV)
  /-- an array of ours; nn: it is not nil; otherwise it is nil if it is empty -/
  | arr (nn : Bool) (t : Ty) (l : List (T t))
  | roa (nn : Bool) (t : Ty) (l : List (T t))
  /-- one that is frozen -/
  | fro (nn : Bool) (t : Ty) (l : List (T t))
  /-- one that is no more -/
  | gone (s n : Nat)
  | loop (L : SL)
  | defd
  | hid
  /-- a map: the keys' kind, the values' data -/
  | mpb (k : IntKind) (ag : Bool) (t : Ty) (l : List (Int × T t))
  /-- nothing is known -/
  | abs
abbrev SH := List (Nat × SB)

def sget (H : SH) (n : Nat) : Option SB := List.rec (motive := fun _ => Option SB) none (fun x _ ih => bif Nat.beq x.1 n then some x.2 else ih) H
theorem sget_nil (n : Nat) : sget [] n = none := rfl
theorem sget_cons (b : Nat) (k : SB) (r : SH) (n : Nat) : sget ((b, k) :: r) n = if b = n then some k else sget r n := by
  show (bif Nat.beq b n then some k else sget r n) = _
  cases h : Nat.beq b n with
  | true => rw [if_pos (Nat.eq_of_beq_eq_true h)]; rfl
  | false => rw [if_neg (Nat.ne_of_beq_eq_false h)]; rfl
def sset : SH → Nat → SB → SH
  | [], _, _ => []
  | (b, k) :: r, n, x => bif Nat.beq b n then (b, x) :: r else (b, k) :: sset r n x
theorem beq_if {α : Type} (a b : Nat) (x y : α) : (bif Nat.beq a b then x else y) = if a = b then x else y := by
  cases h : Nat.beq a b with
  | true => rw [if_pos (Nat.eq_of_beq_eq_true h)]; rfl
  | false => rw [if_neg (Nat.ne_of_beq_eq_false h)]; rfl
theorem sget_set (n : Nat) (x : SB) (m : Nat) : ∀ H : SH, sget (sset H n x) m = if m = n then (sget H n).map (fun _ => x) else sget H m
  | [] => by simp [sset, sget_nil]
  | (b, k) :: r => by
    have ih := sget_set n x m r
    simp only [sset, beq_if]
    by_cases hb : b = n
    · subst hb
      by_cases hm : m = b
      · subst hm; simp [sget_cons]
      · have : ¬ b = m := fun h => hm h.symm
        simp [sget_cons, hm, this]
    · by_cases hm : m = n
      · subst hm; simp [sget_cons, hb, ih]
      · by_cases hbm : b = m
        · subst hbm; simp [sget_cons, hb]
        · simp [sget_cons, hb, hm, hbm, ih]

/-- Whether an array is nil. -/
def nilA {α : Type} (nn : Bool) (l : List α) : Bool := bif nn then false else match l with
  | [] => true
  | _ :: _ => false
theorem nilA_true {α : Type} {nn : Bool} {l : List α} (h : nilA nn l = true) : nn = false ∧ l = [] := by
  cases nn with
  | true => cases h
  | false => cases l with
    | nil => exact ⟨rfl, rfl⟩
    | cons x l => cases h
theorem nilA_ne {α : Type} {nn : Bool} {l : List α} (h : l ≠ []) : nilA nn l = false := by
  cases hn : nilA nn l with
  | false => rfl
  | true => exact absurd (nilA_true hn).2 h
theorem nilA_nn {α : Type} (l : List α) : nilA true l = false := rfl
theorem nilA_set {α : Type} (nn : Bool) (l : List α) (i : Nat) (y : α) : nilA nn (l.set i y) = nilA nn l := by
  cases nn with
  | true => rfl
  | false => cases l with
    | nil => rfl
    | cons x l => cases i <;> rfl
/-- The size of an array's elements, and one; none: it is nil. -/
def rsz (nn : Bool) (t : Ty) (l : List (T t)) : Nat := bif nilA nn l then 0 else sz t + 1
/-- How long an array is, and its elements. -/
def reg : Option SB → Option (Nat × Nat)
  | some (.arr nn t l) => some (l.length, rsz nn t l)
  | some (.roa nn t l) => some (l.length, rsz nn t l)
  | some (.fro nn t l) => some (l.length, rsz nn t l)
  | some (.gone s n) => some (match s with | 0 => 0 | _ + 1 => n, s)
  | _ => none
/-- What a slice of ours stands for; ν: it is nil. -/
def rho (ν : Nat → Bool) (H : SH) (b : Nat) : Value := match reg (sget H b) with
  | some (_, 0) => .slice none 0 0
  | some (n, s + 1) => .slice (some ⟨b, 0, none⟩) n (openCap + s)
  | none => bad

theorem rho_of {H : SH} {b : Nat} {t : Ty} {l : List (T t)} {nn : Bool} (ν : Nat → Bool) (hr : reg (sget H b) = some (l.length, rsz nn t l)) : rho ν H b = bif nilA nn l then .slice none 0 0 else .slice (some ⟨b, 0, none⟩) l.length (openCap + sz t) := by
  unfold rho
  rw [hr]
  unfold rsz
  cases nilA nn l <;> rfl

/-- The cells of an array. -/
def flatA (t : Ty) (l : List (T t)) : List Value := l.flatMap (encC t)
theorem flatA_len (t : Ty) (l : List (T t)) : (flatA t l).length = l.length * sz t := by
  induction l with
  | nil => simp [flatA]
  | cons x l ih =>
    have : flatA t (x :: l) = encC t x ++ flatA t l := rfl
    rw [this, List.length_append, ih, encC_len, List.length_cons, Nat.add_mul, Nat.one_mul, Nat.add_comm]
theorem flatA_drop (t : Ty) : ∀ (l : List (T t)) (i : Nat), (flatA t l).drop (i * sz t) = flatA t (l.drop i)
  | l, 0 => by simp
  | [], i + 1 => by simp [flatA]
  | x :: l, i + 1 => by
    have : flatA t (x :: l) = encC t x ++ flatA t l := rfl
    rw [this, Nat.add_mul, Nat.one_mul, Nat.add_comm, List.drop_append, encC_len]
    have h1 : (encC t x).drop (sz t + i * sz t) = [] := List.drop_eq_nil_of_le (by rw [encC_len]; omega)
    rw [h1, List.nil_append, Nat.add_sub_cancel_left, flatA_drop t l i]; rfl
theorem flatA_take (t : Ty) : ∀ (l : List (T t)) (i : Nat), (flatA t l).take (i * sz t) = flatA t (l.take i)
  | l, 0 => by simp [flatA]
  | [], i + 1 => by simp [flatA]
  | x :: l, i + 1 => by
    have : flatA t (x :: l) = encC t x ++ flatA t l := rfl
    rw [this, Nat.add_mul, Nat.one_mul, Nat.add_comm, List.take_append, encC_len]
    have h1 : (encC t x).take (sz t + i * sz t) = encC t x := List.take_of_length_le (by rw [encC_len]; omega)
    rw [h1, Nat.add_sub_cancel_left, flatA_take t l i]; rfl
theorem flatA_append (t : Ty) (a b : List (T t)) : flatA t (a ++ b) = flatA t a ++ flatA t b := by simp [flatA]
/-- A part of an element. -/
theorem flatA_part (t : Ty) (l : List (T t)) {i k n : Nat} {x : T t} (hx : l[i]? = some x) (hk : k + n ≤ sz t) :
    i * sz t + k + n ≤ (flatA t l).length ∧ ((flatA t l).drop (i * sz t + k)).take n = ((encC t x).drop k).take n := by
  have hlt : i < l.length := (List.getElem?_eq_some_iff.1 hx).1
  constructor
  · rw [flatA_len]
    have : (i + 1) * sz t ≤ l.length * sz t := Nat.mul_le_mul_right _ hlt
    rw [Nat.add_mul] at this
    omega
  · rw [← List.drop_drop, flatA_drop]
    have h1 : l.drop i = x :: l.drop (i + 1) := by
      rw [List.drop_eq_getElem_cons hlt]
      obtain ⟨_, h2⟩ := List.getElem?_eq_some_iff.1 hx
      rw [h2]
    rw [h1]
    have h3 : flatA t (x :: l.drop (i + 1)) = encC t x ++ flatA t (l.drop (i + 1)) := rfl
    rw [h3, List.drop_append, List.take_append, List.length_drop, encC_len]
    have h4 : n - (sz t - k) = 0 := by omega
    rw [h4, List.take_zero, List.append_nil]
theorem flatA_get (t : Ty) (l : List (T t)) {i k : Nat} {x : T t} (hx : l[i]? = some x) (hk : k < sz t) : (flatA t l)[i * sz t + k]? = (encC t x)[k]? := by
  have := (flatA_part t l (n := 1) hx (k := k) (by omega)).2
  have h2 := congrArg (·[0]?) this
  simpa [List.getElem?_take, List.getElem?_drop] using h2
/-- An element set. -/
theorem flatA_set (t : Ty) (l : List (T t)) {i k : Nat} {x y : T t} {vs : List Value} (hx : l[i]? = some x) (hk : k + vs.length ≤ sz t) (hy : encC t y = spl (encC t x) k vs) :
    spl (flatA t l) (i * sz t + k) vs = flatA t (l.set i y) := by
  have hlt : i < l.length := (List.getElem?_eq_some_iff.1 hx).1
  obtain ⟨_, hxe⟩ := List.getElem?_eq_some_iff.1 hx
  have h1 : l = l.take i ++ x :: l.drop (i + 1) := by
    rw [← hxe]; simp
  have h2 : l.set i y = l.take i ++ y :: l.drop (i + 1) := by
    apply List.ext_getElem?
    intro j
    rw [List.getElem?_set]
    by_cases h : i = j
    · subst h; simp [hlt, Nat.min_eq_left (Nat.le_of_lt hlt)]
    · simp only [h, if_false]
      conv => lhs; rw [h1]
      by_cases hji : j < i
      · rw [List.getElem?_append_left (by simp; omega), List.getElem?_append_left (by simp; omega)]
      · have hm : (l.take i).length = i := by simp; omega
        rw [List.getElem?_append_right (by omega), List.getElem?_append_right (by omega), hm]
        have : j - i = (j - i - 1) + 1 := by omega
        rw [this]; simp
  rw [h2]
  conv => lhs; rw [h1]
  have ha : ∀ z, flatA t (l.take i ++ z :: l.drop (i + 1)) = flatA t (l.take i) ++ (encC t z ++ flatA t (l.drop (i + 1))) := fun z => by simp [flatA]
  rw [ha, ha, hy]
  have hl : (flatA t (l.take i)).length = i * sz t := by rw [flatA_len, List.length_take, Nat.min_eq_left (Nat.le_of_lt hlt)]
  have hle := encC_len t x
  unfold spl
  rw [← hl]
  simp only [List.take_append, List.drop_append]
  have e1 : (flatA t (l.take i)).take ((flatA t (l.take i)).length + k) = flatA t (l.take i) := List.take_of_length_le (by omega)
  have e2 : (flatA t (l.take i)).drop ((flatA t (l.take i)).length + k + vs.length) = [] := List.drop_eq_nil_of_le (by omega)
  have e3 : (flatA t (l.take i)).length + k - (flatA t (l.take i)).length = k := by omega
  have e4 : (flatA t (l.take i)).length + k + vs.length - (flatA t (l.take i)).length = k + vs.length := by omega
  rw [e1, e2, e3, e4]
  have e5 : k - (encC t x).length = 0 := by omega
  have e6 : k + vs.length - (encC t x).length = 0 := by omega
  rw [e5, e6]
  simp [List.append_assoc]

/-- What a record of a loop stands for. -/
def denLoop (ρ : Nat → Value) (L : SL) : Loop :=
  { state := L.st, pending := L.pend, fn := 0, tmps := (denL ρ L.tm).toArray, params := L.params, assign := L.assign, body := L.body, defers := L.dfr }
/-- A map's value. -/
def mvV (ag : Bool) (t : Ty) (x : T t) : Value := bif ag then encE t x else (encC t x).headD Fz.junk
/-- A map's entries. -/
def entsM (k : IntKind) (ag : Bool) (t : Ty) : List (Int × T t) → Nat → List (Value × Value × Nat)
  | [], _ => []
  | p :: r, i => (.int k p.1, mvV ag t p.2, i) :: entsM k ag t r (i + 1)
/-- What a block stands for; a nil array for none. -/
def denB (ρ : Nat → Value) (nil : Bool) : SB → Option Blk
  | .vars cs => some (.cells (denL ρ cs) false)
  | .ro cs => some (.cells (denL ρ cs) true)
  | .arr nn t l => bif nilA nn l then none else some (.cells (flatA t l) false)
  | .roa nn t l => bif nilA nn l then none else some (.cells (flatA t l) true)
  | .fro nn t l => bif nilA nn l then none else some (.fzc (flatA t l))
  | .gone _ _ => none
  | .loop L => some (.loop (denLoop ρ L))
  | .defd => some .defd
  | .hid => some .hid
  | .mpb k ag t l => some (.mp (entsM k ag t l 0) l.length)
  | .abs => none
def denHr (ν : Nat → Bool) (ρ : Nat → Value) : SH → Hp
  | [] => []
  | (b, k) :: r => match denB ρ (ν b) k with
    | some x => (b, x) :: denHr ν ρ r
    | none => (denHr ν ρ r).del b
theorem denHr_get (ν : Nat → Bool) (ρ : Nat → Value) (n : Nat) : ∀ H : SH, (denHr ν ρ H).get n = (sget H n).bind (denB ρ (ν n))
  | [] => rfl
  | (b, k) :: r => by
    have ih := denHr_get ν ρ n r
    simp only [denHr, sget_cons]
    by_cases hb : b = n
    · subst hb
      cases hx : denB ρ (ν b) k with
      | none => simp [hx, Hp.get_del]
      | some x => simp [hx, Hp.get_cons]
    · have hbe : (b == n) = false := by simpa using hb
      have hnb : ¬ n = b := fun e => hb e.symm
      cases hx : denB ρ (ν b) k with
      | none => simp only [Hp.get_del, hnb, if_false, hb]; exact ih
      | some x => simp only [Hp.get_cons, hbe, Bool.false_eq_true, if_false, hb]; exact ih
def denH (ν : Nat → Bool) (H : SH) : Hp := denHr ν (rho ν H) H
theorem denH_get (ν : Nat → Bool) (H : SH) (n : Nat) : (denH ν H).get n = (sget H n).bind (denB (rho ν H) (ν n)) := denHr_get ν _ n H

theorem reg_gone (nn : Bool) (t : Ty) (l : List (T t)) : reg (some (.gone (rsz nn t l) l.length)) = some (l.length, rsz nn t l) := by
  unfold rsz
  cases hn : nilA nn l with
  | true =>
    obtain ⟨_, rfl⟩ := nilA_true hn
    rfl
  | false => rfl
theorem reg_zero {k : Option SB} {n : Nat} (h : reg k = some (n, 0)) : n = 0 := by
  have key : ∀ (nn : Bool) (t : Ty) (l : List (T t)), some (l.length, rsz nn t l) = some (n, 0) → n = 0 := fun nn t l h => by
    unfold rsz at h
    cases hn : nilA nn l with
    | true =>
      obtain ⟨_, rfl⟩ := nilA_true hn
      rw [hn] at h
      simp at h
      exact h.symm
    | false => rw [hn] at h; simp at h
  cases k with
  | none => cases h
  | some k =>
    cases k with
    | arr nn t l => exact key nn t l h
    | roa nn t l => exact key nn t l h
    | fro nn t l => exact key nn t l h
    | gone s m =>
      cases s with
      | zero => simp [reg] at h; exact h.symm
      | succ s => simp [reg] at h
    | _ => simp [reg] at h
/-- Surely not nil. -/
def notNil : Option SB → Bool
  | some (.arr nn _ _) => nn
  | some (.roa nn _ _) => nn
  | _ => false
/-- Which arrays may be nil: empty ones, of old names. -/
structure VN (ν : Nat → Bool) (nx : Nat) (H : SH) : Prop where
  empty : ∀ b n, reg (sget H b) = some (n, 0) → n = 0
  old : ∀ b, nx ≤ b → ν b = false
  nn : ∀ b, notNil (sget H b) = true → ν b = false
/-- Arrays keep their lengths. -/
def RegLe (H H' : SH) : Prop := ∀ b x, reg (sget H b) = some x → reg (sget H' b) = some x
theorem RegLe.refl (H : SH) : RegLe H H := fun _ _ h => h
theorem RegLe.trans {H H' H'' : SH} (h : RegLe H H') (k : RegLe H' H'') : RegLe H H'' := fun b x hx => k b x (h b x hx)
/-- Records of loops stay, but for how they stand. -/
def LKeep (H H' : SH) : Prop := ∀ l L, sget H l = some (.loop L) → ∃ s p, sget H' l = some (.loop { L with st := s, pend := p })
theorem LKeep.refl (H : SH) : LKeep H H := fun l L h => ⟨L.st, L.pend, h⟩
theorem LKeep.trans {H H' H'' : SH} (h : LKeep H H') (k : LKeep H' H'') : LKeep H H'' := fun l L hl => by
  obtain ⟨s, p, h1⟩ := h l L hl
  obtain ⟨s', p', h2⟩ := k l _ h1
  exact ⟨s', p', h2⟩

/-- What slices of ours stand for has stayed, where it was anything. -/
def RLe (ρ ρ' : Nat → Value) : Prop := ∀ b, ρ b = bad ∨ ρ' b = ρ b
theorem RLe.refl (ρ : Nat → Value) : RLe ρ ρ := fun _ => .inr rfl
theorem rho_le (ν : Nat → Bool) {H H' : SH} (h : RegLe H H') : RLe (rho ν H) (rho ν H') := by
  intro b
  unfold rho
  cases hr : reg (sget H b) with
  | none => exact .inl rfl
  | some x => right; rw [h b x hr]
mutual
theorem den_mono {ρ ρ' : Nat → Value} (h : RLe ρ ρ') {φ : Ren} : ∀ (v : SV) (v' : Value), VRel φ (den ρ v) v' → VRel φ (den ρ' v) v'
  | .bool _, _, hv => by simpa only [den] using hv
  | .int _ _, _, hv => by simpa only [den] using hv
  | .str _, _, hv => by simpa only [den] using hv
  | .agg cs, v', hv => by
    simp only [den] at hv ⊢
    obtain ⟨ys, rfl, hl⟩ := hv.agg_inv
    exact .agg' (by simpa using denL_mono h cs ys.toList (by simpa using hl))
  | .tup vs, v', hv => by
    simp only [den] at hv ⊢
    obtain ⟨ys, rfl, hl⟩ := hv.tuple_inv
    exact .tuple' (by simpa using denL_mono h vs ys.toList (by simpa using hl))
  | .ptr _ _, _, hv => by simpa only [den] using hv
  | .nilp, _, hv => by simpa only [den] using hv
  | .lst _ _ _, _, hv => by simpa only [den] using hv
  | .own b, v', hv => by
    simp only [den] at hv ⊢
    rcases h b with hb | hb
    · rw [hb] at hv; exact (not_rel_bad hv).elim
    · rw [hb]; exact hv
  | .nils, _, hv => by simpa only [den] using hv
  | .elp _ _ _ _, _, hv => by simpa only [den] using hv
  | .fel _ _ _, _, hv => by simpa only [den] using hv
  | .fn f fs cs, v', hv => by
    simp only [den] at hv ⊢
    obtain ⟨fn', ys, us, rfl, hf, h1, h2⟩ := hv.func_inv
    exact .func' hf (by simpa using denL_mono h fs ys.toList (by simpa using h1)) (by simpa using denL_mono h cs us.toList (by simpa using h2))
  | .yld _, _, hv => by simpa only [den] using hv
  | .nilf, _, hv => by simpa only [den] using hv
  | .mp _, _, hv => by simpa only [den] using hv
  | .junk, _, hv => by simpa only [den] using hv
theorem denL_mono {ρ ρ' : Nat → Value} (h : RLe ρ ρ') {φ : Ren} : ∀ (vs : List SV) (us : List Value), LRel φ (denL ρ vs) us → LRel φ (denL ρ' vs) us
  | [], us, hr => by simpa only [denL] using hr
  | v :: vs, [], hr => by simp [denL, LRel] at hr
  | v :: vs, u :: us, hr => by
    simp only [denL, LRel] at hr ⊢
    exact ⟨den_mono h v u hr.1, denL_mono h vs us hr.2⟩
end
theorem den_junk {ρ ρ' : Nat → Value} (hρ : ∀ b, ρ b ≠ Fz.junk) {v : SV} (h : den ρ v = Fz.junk) : den ρ' v = Fz.junk := by
  cases v <;> simp only [den, Fz.junk, reduceCtorEq] at h ⊢
  · simp [fzV] at h
  · exact absurd h (hρ _)
theorem rho_junk (ν : Nat → Bool) (H : SH) (b : Nat) : rho ν H b ≠ Fz.junk := by
  unfold rho
  split
  · simp [Fz.junk]
  · simp [Fz.junk]
  · simp [bad, Fz.junk]
theorem trel_mono {ρ ρ' : Nat → Value} (hρ : ∀ b, ρ b ≠ Fz.junk) (h : RLe ρ ρ') {φ : Ren} {tm : List SV} {ts : Array Value} (ht : TRel φ (denL ρ tm) ts) : TRel φ (denL ρ' tm) ts := by
  refine ⟨by simpa [denL_map] using ht.1, fun i v hv => ?_⟩
  rw [denL_map, List.getElem?_map, Option.map_eq_some_iff] at hv
  obtain ⟨u, hu, rfl⟩ := hv
  rcases ht.2 i (den ρ u) (by rw [denL_map, List.getElem?_map, hu]; rfl) with h0 | ⟨v', h1, h2⟩
  · exact .inl (den_junk hρ h0)
  · exact .inr ⟨v', h1, den_mono h u v' h2⟩
theorem trel_reg (ν : Nat → Bool) {H H' : SH} (h : RegLe H H') {φ : Ren} {tm : List SV} {ts : Array Value} (ht : TRel φ (denL (rho ν H) tm) ts) : TRel φ (denL (rho ν H') tm) ts := trel_mono (rho_junk ν H) (rho_le ν h) ht
end Go.Fz.Sy
/- The symbolic engine, part B: arrays of ours are frozen; data read out of cells. -/
noncomputable section
namespace Go.Fz.Sy
set_option linter.unusedVariables false
set_option linter.unusedSimpArgs false
variable {P : Program} {φ : Ren} {K : Nat → Prop} {w : World}

theorem good_ext {G H : Hp} (g : Good φ H K w) (h : ∀ b k, G.get b = some k → H.get b = some k) : Good φ G K w := g.sub h

/-- A block of ours, frozen. -/
theorem good_fzc {H : Hp} (g : Good φ H K w) {b : Nat} {cs : List Value} (hb : H.get b = some (.cells cs false)) :
    ∃ φ', (∀ n, Ext K φ φ' n n) ∧ ∀ H' : Hp, (∀ c k, H'.get c = some k → if c = b then k = .fzc cs else H.get c = some k) → Good φ' H' K w := by
  obtain ⟨L, hL, a, el, fr, e1, e2, e3⟩ := g.rel b _ hb
  have hnone : φ (FZ + L.blk) = none := by
    cases h : φ (FZ + L.blk) with
    | none => rfl
    | some M => exact absurd rfl (g.fsep b _ L L.blk M hb rfl hL h)
  let N : Loc := ⟨L.blk, 0, 0, a⟩
  have hle := Ren.put_le hnone N
  have hoth : ∀ c, c ≠ FZ + L.blk → (φ.put (FZ + L.blk) N) c = φ c := fun c hc => Ren.put_other φ N hc
  have hname : ∀ c k, H.get c = some k → c ≠ FZ + L.blk := fun c k hc e => by
    obtain ⟨M, hM, _⟩ := g.rel c k hc
    rw [e, hnone] at hM; cases hM
  refine ⟨φ.put (FZ + L.blk) N, fun n => ⟨hle, fun c hc _ => hoth c (by omega), fun c M hM => ?_⟩, fun H' hH' => ?_⟩
  · by_cases h : c = L.blk
    · subst h; exact .inr (g.prot b _ L hb rfl hL)
    · rw [hoth _ (by omega)] at hM; exact .inl hM
  have old : ∀ c k, H'.get c = some k → c ≠ b → H.get c = some k := fun c k hc hne => by have := hH' c k hc; rwa [if_neg hne] at this
  have nrw : ∀ k, H'.get b = some k → k = .fzc cs := fun k hk => by have := hH' b k hk; rwa [if_pos rfl] at this
  have hrwne : ∀ c k, H'.get c = some k → k.rw = true → c ≠ b := fun c k hc hr e => by
    subst e; rw [nrw k hc] at hr; cases hr
  refine ⟨fun c k hc => ?_, fun c d k k' M M' hc hd hne hk hM hM' => ?_, fun c k M hc hk hM => ?_, g.kin, fun c M hM => ?_, fun c k M d M' hc hk hM hM' => ?_⟩
  · by_cases hcb : c = b
    · subst hcb
      rw [nrw k hc]
      exact ⟨L, hle _ _ hL, ⟨_, e1⟩, N, Ren.put_same _ _ _, fun j v hv => let ⟨v', h1, h2⟩ := e2 j v hv; ⟨v', h1, h2.mono hle⟩⟩
    · obtain ⟨M, hM, hr⟩ := g.rel c k (old c k hc hcb)
      exact ⟨M, hle _ _ hM, hr.mono hle⟩
  · have hcb := hrwne c k hc hk
    have hcH := old c k hc hcb
    rw [hoth c (hname c k hcH)] at hM
    by_cases hdb : d = b
    · subst hdb
      rw [hoth d (hname d _ hb)] at hM'
      exact g.sep c d k _ M M' hcH hb hne hk hM hM'
    · have hdH := old d k' hd hdb
      rw [hoth d (hname d k' hdH)] at hM'
      exact g.sep c d k k' M M' hcH hdH hne hk hM hM'
  · have hcH := old c k hc (hrwne c k hc hk)
    rw [hoth c (hname c k hcH)] at hM
    exact g.prot c k M hcH hk hM
  · by_cases h : c = L.blk
    · subst h
      rw [Ren.put_same] at hM; cases hM
      exact ⟨rfl, rfl, a, el, fr, e1, fun j u hu => hu⟩
    · rw [hoth _ (by omega)] at hM; exact g.fz c M hM
  · have hcb := hrwne c k hc hk
    have hcH := old c k hc hcb
    rw [hoth c (hname c k hcH)] at hM
    by_cases h : d = L.blk
    · subst h
      exact g.sep c b k _ M L hcH hb hcb hk hM hL
    · rw [hoth _ (by omega)] at hM'
      exact g.fsep c k M d M' hcH hk hM hM'

/-- Arrays frozen, nothing else. -/
def GLe (H H' : SH) : Prop := ∀ b, sget H' b = sget H b ∨ ∃ nn t l, sget H b = some (.arr nn t l) ∧ sget H' b = some (.fro nn t l)
theorem GLe.refl (H : SH) : GLe H H := fun _ => .inl rfl
theorem GLe.trans {H H' H'' : SH} (h : GLe H H') (k : GLe H' H'') : GLe H H'' := fun b => by
  rcases h b with h1 | ⟨nn, t, l, h1, h2⟩
  · rcases k b with k1 | ⟨nn, t, l, k1, k2⟩
    · exact .inl (k1.trans h1)
    · exact .inr ⟨nn, t, l, h1 ▸ k1, k2⟩
  · rcases k b with k1 | ⟨nn', t', l', k1, k2⟩
    · exact .inr ⟨nn, t, l, h1, k1.trans h2⟩
    · rw [h2] at k1; cases k1
theorem GLe.reg {H H' : SH} (h : GLe H H') (b : Nat) : Sy.reg (sget H' b) = Sy.reg (sget H b) := by
  rcases h b with h1 | ⟨nn, t, l, h1, h2⟩
  · rw [h1]
  · rw [h1, h2]; rfl
theorem GLe.regLe {H H' : SH} (h : GLe H H') : RegLe H H' := fun b x hx => by rw [h.reg b]; exact hx
theorem GLe.lkeep {H H' : SH} (h : GLe H H') : LKeep H H' := fun l L hl => by
  rcases h l with h1 | ⟨nn, t, a, h1, h2⟩
  · exact ⟨L.st, L.pend, by rw [h1]; exact hl⟩
  · rw [hl] at h1; cases h1
theorem GLe.rho {H H' : SH} (h : GLe H H') (ν : Nat → Bool) : Sy.rho ν H' = Sy.rho ν H := by
  funext b
  unfold Sy.rho
  rw [h.reg b]
theorem GLe.vn {H H' : SH} (h : GLe H H') {ν : Nat → Bool} {nx : Nat} (v : VN ν nx H) : VN ν nx H' := ⟨fun b n hr => v.empty b n (by rw [← h.reg b]; exact hr), v.old, fun b hb => v.nn b (by
  rcases h b with h1 | ⟨nn, t, l, h1, h2⟩
  · rw [← h1]; exact hb
  · rw [h2] at hb; cases hb)⟩
theorem GLe.fro {H H' : SH} (h : GLe H H') {b : Nat} {nn : Bool} {t : Ty} {l : List (T t)} (hb : sget H b = some (.fro nn t l)) : sget H' b = some (.fro nn t l) := by
  rcases h b with h1 | ⟨nn, t, a, h1, h2⟩
  · rw [h1]; exact hb
  · rw [hb] at h1; cases h1
/-- A step that changes nothing in the world. -/
def Ghost (H H' : SH) : Prop := GLe H H' ∧ ∀ (ν : Nat → Bool) (φ : Ren) (K : Nat → Prop) (w : World), Good φ (denH ν H) K w → ∃ φ', (∀ n, Ext K φ φ' n n) ∧ Good φ' (denH ν H') K w
theorem Ghost.refl (H : SH) : Ghost H H := ⟨GLe.refl H, fun ν φ K w g => ⟨φ, fun n => Ext.refl _ _ _ _, g⟩⟩
theorem Ghost.trans {H H' H'' : SH} (h : Ghost H H') (k : Ghost H' H'') : Ghost H H'' := ⟨h.1.trans k.1, fun ν φ K w g => by
  obtain ⟨φ1, e1, g1⟩ := h.2 ν φ K w g
  obtain ⟨φ2, e2, g2⟩ := k.2 ν φ1 K w g1
  exact ⟨φ2, fun n => (e1 n).comp (e2 n), g2⟩⟩
theorem ghost_freeze {H : SH} {b : Nat} {nn : Bool} {t : Ty} {l : List (T t)} (hb : sget H b = some (.arr nn t l)) : Ghost H (sset H b (.fro nn t l)) := by
  have hg : GLe H (sset H b (.fro nn t l)) := fun c => by
    rw [sget_set]
    by_cases hc : c = b
    · subst hc; exact .inr ⟨nn, t, l, hb, by simp [hb]⟩
    · rw [if_neg hc]; exact .inl rfl
  refine ⟨hg, fun ν φ K w g => ?_⟩
  have hoth : ∀ c k, (denH ν (sset H b (.fro nn t l))).get c = some k → c ≠ b → (denH ν H).get c = some k := fun c k hc hne => by
    rw [denH_get, sget_set, if_neg hne, hg.rho ν] at hc
    rw [denH_get]; exact hc
  cases hn : nilA nn l with
  | true =>
    refine ⟨φ, fun n => Ext.refl _ _ _ _, g.sub fun c k hc => ?_⟩
    by_cases hcb : c = b
    · subst hcb
      rw [denH_get, sget_set] at hc
      simp [hb, denB, hn] at hc
    · exact hoth c k hc hcb
  | false =>
    have hd : (denH ν H).get b = some (.cells (flatA t l) false) := by rw [denH_get, hb]; simp [denB, hn]
    obtain ⟨φ', e1, e2⟩ := good_fzc g hd
    refine ⟨φ', e1, e2 _ fun c k hc => ?_⟩
    by_cases hcb : c = b
    · subst hcb
      rw [denH_get, sget_set] at hc
      simp [hb, denB, hn] at hc
      simp [hc]
    · rw [if_neg hcb]; exact hoth c k hc hcb

/-- A frozen array's slice is a frozen list. -/
theorem fro_rel {H : SH} {ν : Nat → Bool} {nx : Nat} (g : Good φ (denH ν H) K w) (hv : VN ν nx H) {b : Nat} {nn : Bool} {t : Ty} {l : List (T t)} (hb : sget H b = some (.fro nn t l)) (hs : 0 < sz t) {v' : Value} (h : VRel φ (rho ν H b) v') :
    VRel φ (fzV (sz t) false (l.map (encE t))) v' := by
  have hr : reg (sget H b) = some (l.length, rsz nn t l) := by rw [hb]; rfl
  have hnil : ∀ a c, l = [] → VRel φ (fzV (sz t) false (l.map (encE t))) (.slice a 0 c) := fun a c e => by subst e; exact .fz0 _ _ _
  rw [rho_of ν hr] at h
  cases hn : nilA nn l with
  | true =>
    have hl : l = [] := (nilA_true hn).2
    simp only [hn, cond_true] at h
    cases h
    exact hnil _ _ hl
  | false =>
    simp only [hn, cond_false] at h
    generalize hc0 : openCap + sz t = c0 at h
    generalize hn0 : l.length = n0 at h
    cases h with
    | sl _ _ _ _ L hL hc => omega
    | slO _ _ _ _ c' L hL hc hnc hl =>
      by_cases hl0 : l = []
      · subst hl0; simp at hn0; subst hn0; exact hnil _ _ rfl
      · have hd : (denH ν H).get b = some (.fzc (flatA t l)) := by rw [denH_get, hb]; simp [denB, hn]
        obtain ⟨L', hL', hB⟩ := g.rel b _ hd
        rw [hL] at hL'; cases hL'
        obtain ⟨_, M, hM, hcs⟩ := hB
        have hpos : 0 < l.length := List.length_pos_iff.2 hl0
        have hfl := flatA_len t l
        have hmul : 0 < l.length * sz t := Nat.mul_pos hpos hs
        have hes : ((l.map (encE t)).toArray).size = n0 := by simp [hn0]
        have hget : ∀ (j : Nat) e, ((l.map (encE t)).toArray)[j]? = some e → ∃ x, l[j]? = some x ∧ e = encE t x := fun j e he => by
          simp only [List.getElem?_toArray, List.getElem?_map, Option.map_eq_some_iff] at he
          obtain ⟨x, hx, rfl⟩ := he
          exact ⟨x, hx, rfl⟩
        have key := VRel.fz (φ := φ) (sz t) (l.map (encE t)).toArray L.blk (L.off + 0) c' M hM (by rw [hes]; omega) (by
          rw [hes]
          obtain ⟨v', h1, _⟩ := hcs (l.length * sz t - 1) ((flatA t l)[l.length * sz t - 1]'(by omega)) (by simp)
          have := (Array.getElem?_eq_some_iff.1 h1).1
          rw [← hn0]; omega) (by rw [hes]; exact hnc) (fun j e he => by
            obtain ⟨x, _, rfl⟩ := hget j e he
            simp [encE, Value.cells, encC_len]) (fun j k e u u' he hu hu' => by
            obtain ⟨x, hx, rfl⟩ := hget j e he
            simp only [encE, Value.cells, List.getElem?_toArray] at hu
            have hk : k < sz t := by have := (List.getElem?_eq_some_iff.1 hu).1; rwa [encC_len] at this
            have h1 := flatA_get t l hx hk
            rw [hu] at h1
            obtain ⟨v', q1, q2⟩ := hcs _ _ h1
            rw [Nat.add_zero, Nat.add_assoc] at hu'
            rw [q1] at hu'; cases hu'
            exact q2)
        rw [hes] at key
        exact key
    | slE _ _ _ a' L hL hc =>
      have hl : l = [] := List.length_eq_zero_iff.1 hn0
      exact hnil _ _ hl

/-- A datum, read out of cells; arrays of ours that it names are frozen. -/
def cvC : (t : Ty) → List SV → SH → Option (T t × List SV × SH)
  | .unit, l, H => some ((), l, H)
  | .bool, l, H => match l with
    | .bool b :: r => some (b, r, H)
    | _ => none
  | .int k, l, H => match l with
    | .int k' n :: r => bif keqF k k' then some (n, r, H) else none
    | _ => none
  | .str, l, H => match l with
    | .str s :: r => some (s, r, H)
    | _ => none
  | .list t, l, H => match l with
    | .lst t' x _ :: r => if h : t' = t then some (castL h x, r, H) else none
    | .nils :: r => some (([] : List (T t)), r, H)
    | .own b :: r => match sget H b with
      | some (.arr nn t' x) => if h : t' = t then bif Nat.blt 0 (sz t) then some (castL h x, r, sset H b (.fro nn t' x)) else none else none
      | some (.fro _ t' x) => if h : t' = t then bif Nat.blt 0 (sz t) then some (castL h x, r, H) else none else none
      | _ => none
    | _ => none
  | .pair a b, l, H => match cvC a l H with
    | some (x, l1, H1) => match cvC b l1 H1 with
      | some (y, l2, H2) => some ((x, y), l2, H2)
      | none => none
    | none => none
/-- How cells stand for a datum. -/
def CRel (ν : Nat → Bool) (H H' : SH) (cs : List SV) (xs : List Value) : Prop := ∀ (G : SH), GLe H' G → ∀ (φ : Ren) (K : Nat → Prop) (w : World) (nx : Nat) (us : List Value), Good φ (denH ν G) K w → VN ν nx G → LRel φ (denL (rho ν H) cs) us → LRel φ xs us
theorem cond_some {α : Type} {b : Bool} {x : Option α} {y : α} (h : (bif b then x else none) = some y) : b = true ∧ x = some y := by
  cases b
  · cases h
  · exact ⟨rfl, h⟩
theorem blt_pos {n : Nat} (h : Nat.blt 0 n = true) : 0 < n := blt_lt h
theorem cvC_ok : ∀ (t : Ty) {l : List SV} {H : SH} {x : T t} {r : List SV} {H' : SH}, cvC t l H = some (x, r, H') → ∃ cs, l = cs ++ r ∧ Ghost H H' ∧ ∀ ν, CRel ν H H' cs (encC t x)
  | .unit, l, H, x, r, H', h => by
    simp only [cvC] at h
    cases h
    exact ⟨[], rfl, Ghost.refl _, fun ν G hG φ K w nx us g hn hr => by simpa [denL, encC] using hr⟩
  | .bool, l, H, x, r, H', h => by
    simp only [cvC] at h
    split at h
    · cases h
      refine ⟨_, (List.singleton_append).symm, Ghost.refl _, fun ν G hG φ K w nx us g hn hr => by simpa [denL, den, encC] using hr⟩
    · cases h
  | .int k, l, H, x, r, H', h => by
    simp only [cvC] at h
    split at h
    · rename_i k' n r'
      obtain ⟨hk, h2⟩ := cond_some (x := some (n, r', H)) h
      have := keqF_eq hk
      subst this
      clear h
      cases h2
      refine ⟨_, (List.singleton_append).symm, Ghost.refl _, fun ν G hG φ K w nx us g hn hr => by simpa [denL, den, encC] using hr⟩
    · cases h
  | .str, l, H, x, r, H', h => by
    simp only [cvC] at h
    split at h
    · cases h
      refine ⟨_, (List.singleton_append).symm, Ghost.refl _, fun ν G hG φ K w nx us g hn hr => by simpa [denL, den, encC] using hr⟩
    · cases h
  | .list t, l, H, x, r, H', h => by
    simp only [cvC] at h
    split at h
    · rename_i t' y full r'
      split at h
      · rename_i ht
        subst ht
        cases h
        refine ⟨_, (List.singleton_append).symm, Ghost.refl _, fun ν G hG φ K w nx us g hn hr => ?_⟩
        match us, hr with
        | [], hr => simp [denL, LRel] at hr
        | u :: us, hr =>
          simp only [denL, LRel, den] at hr
          refine ⟨?_, hr.2⟩
          cases full with
          | false => exact hr.1
          | true =>
            have h1 := hr.1
            unfold fzV at h1 ⊢
            simp only [cond_true, cond_false] at h1 ⊢
            generalize hs : sz t' = s at h1 ⊢
            generalize he : (List.map (encE t') y).toArray = es at h1
            show VRel φ (.iface s (.tuple (List.map (encE t') (castL rfl y)).toArray)) u
            have : castL rfl y = y := rfl
            rw [this, he]
            cases h1 with
            | fq _ _ b o L hL hn ho hs h => exact .fz _ _ b o _ L hL hn ho (Nat.le_refl _) hs h
            | fq0 _ a => exact .fz0 _ _ _
      · cases h
    · cases h
      refine ⟨_, (List.singleton_append).symm, Ghost.refl _, fun ν G hG φ K w nx us g hn hr => ?_⟩
      match us, hr with
      | [], hr => simp [denL, LRel] at hr
      | u :: us, hr =>
        simp only [denL, LRel, den] at hr
        refine ⟨?_, hr.2⟩
        have h1 := hr.1
        cases h1
        exact .fz0 _ _ _
    · rename_i b r'
      split at h
      · rename_i nn t' y hb
        split at h
        · rename_i ht
          subst ht
          obtain ⟨hp, h⟩ := cond_some h
          cases h
          refine ⟨_, (List.singleton_append).symm, ghost_freeze hb, fun ν G hG φ K w nx us g hn hr => ?_⟩
          match us, hr with
          | [], hr => simp [denL, LRel] at hr
          | u :: us, hr =>
            simp only [denL, LRel, den] at hr
            refine ⟨?_, hr.2⟩
            have hb2 : sget (sset H b (.fro nn t' y)) b = some (.fro nn t' y) := by rw [sget_set, if_pos rfl, hb]; rfl
            rw [← (ghost_freeze hb).1.rho ν, ← hG.rho ν] at hr
            exact fro_rel g hn (hG.fro hb2) (blt_pos hp) hr.1
        · cases h
      · rename_i t' y hb
        split at h
        · rename_i ht
          subst ht
          obtain ⟨hp, h⟩ := cond_some h
          cases h
          refine ⟨_, (List.singleton_append).symm, Ghost.refl _, fun ν G hG φ K w nx us g hn hr => ?_⟩
          match us, hr with
          | [], hr => simp [denL, LRel] at hr
          | u :: us, hr =>
            simp only [denL, LRel, den] at hr
            rw [← hG.rho ν] at hr
            exact ⟨fro_rel g hn (hG.fro hb) (blt_pos hp) hr.1, hr.2⟩
        · cases h
      · cases h
    · cases h
  | .pair a b, l, H, x, r, H', h => by
    simp only [cvC] at h
    split at h
    case h_2 => cases h
    rename_i x1 l1 H1 h1
    split at h
    case h_2 => cases h
    rename_i y l2 H2 h2
    cases h
    obtain ⟨c1, rfl, g1, r1⟩ := cvC_ok a h1
    obtain ⟨c2, rfl, g2, r2⟩ := cvC_ok b h2
    refine ⟨c1 ++ c2, by simp, g1.trans g2, fun ν G hG φ K w nx us g hn hr => ?_⟩
    rw [denL_map, List.map_append] at hr
    have hlen := hr.length
    obtain ⟨u1, u2, rfl, hl1⟩ : ∃ u1 u2, us = u1 ++ u2 ∧ u1.length = c1.length := ⟨us.take c1.length, us.drop c1.length, by simp, by simp at hlen ⊢; omega⟩
    have hsplit : LRel φ (c1.map (den (rho ν H))) u1 ∧ LRel φ (c2.map (den (rho ν H))) u2 := by
      have h3 := hr.take (c1.length)
      have h4 := hr.drop (c1.length)
      rw [List.take_append_of_le_length (by simp), List.take_append_of_le_length (by omega), List.take_of_length_le (by simp), List.take_of_length_le (by omega)] at h3
      rw [List.drop_append_of_le_length (by simp), List.drop_append_of_le_length (by omega), List.drop_eq_nil_of_le (by simp), List.drop_eq_nil_of_le (by omega)] at h4
      exact ⟨h3, h4⟩
    refine LRel.append ?_ ?_
    · exact r1 ν G (g2.1.trans hG) φ K w nx u1 g hn (by rw [denL_map]; exact hsplit.1)
    · have := r2 ν G hG φ K w nx u2 g hn
      rw [denL_map, g1.1.rho ν] at this
      exact this hsplit.2

/-- How a datum stands as a value: a struct or an array, or one cell. -/
structure VT where
  agg : Bool
  ty : Ty
def cvE (t : Ty) (x : Option (T t × List SV × SH)) : Option (T t × SH) := match x with
  | some (x, [], H) => some (x, H)
  | _ => none
theorem cvE_some {t : Ty} {y : Option (T t × List SV × SH)} {x : T t} {H : SH} (h : cvE t y = some (x, H)) : y = some (x, [], H) := by
  unfold cvE at h
  split at h
  · cases h; rfl
  · cases h
def cvV (t : VT) (v : SV) (H : SH) : Option (T t.ty × SH) := match t with
  | ⟨true, t⟩ => match v with
    | .agg cs => cvE t (cvC t cs H)
    | _ => none
  | ⟨false, t⟩ => match v with
    | .agg _ => none
    | v => cvE t (cvC t [v] H)
def mk1 : List SV → SV
  | [v] => v
  | _ => .junk
def mkV (t : VT) (x : T t.ty) : SV := bif t.agg then .agg (encL t.ty x) else mk1 (encL t.ty x)
theorem cvV_ok {t : VT} {v : SV} {H H' : SH} {x : T t.ty} (h : cvV t v H = some (x, H')) :
    Ghost H H' ∧ ∀ ν G, GLe H' G → ∀ (φ : Ren) (K : Nat → Prop) (w : World) (nx : Nat) (v' : Value), Good φ (denH ν G) K w → VN ν nx G → VRel φ (den (rho ν H) v) v' → ∀ ρ, VRel φ (den ρ (mkV t x)) v' := by
  obtain ⟨ag, t⟩ := t
  cases ag with
  | true =>
    simp only [cvV] at h
    split at h
    · rename_i cs
      obtain ⟨cs1, he, g1, r1⟩ := cvC_ok _ (cvE_some h)
      simp only [List.append_nil] at he
      subst he
      refine ⟨g1, fun ν G hG φ K w nx v' g hn hv ρ => ?_⟩
      simp only [mkV, cond_true, den] at hv ⊢
      obtain ⟨ys, rfl, hl⟩ := hv.agg_inv
      refine .agg' ?_
      rw [denL_map, encL_den]
      simpa using r1 ν G hG φ K w nx ys.toList g hn (by simpa using hl)
    · cases h
  | false =>
    have key : ∀ v : SV, cvE t (cvC t [v] H) = some (x, H') → Ghost H H' ∧ ∀ ν G, GLe H' G → ∀ (φ : Ren) (K : Nat → Prop) (w : World) (nx : Nat) (v' : Value), Good φ (denH ν G) K w → VN ν nx G → VRel φ (den (rho ν H) v) v' → ∀ ρ, VRel φ (den ρ (mkV ⟨false, t⟩ x)) v' := by
      intro v h
      obtain ⟨cs1, he, g1, r1⟩ := cvC_ok _ (cvE_some h)
      simp only [List.append_nil] at he
      subst he
      refine ⟨g1, fun ν G hG φ K w nx v' g hn hv ρ => ?_⟩
      have hr := r1 ν G hG φ K w nx [v'] g hn ⟨hv, trivial⟩
      rw [← encL_den ρ] at hr
      simp only [mkV, cond_false]
      generalize encL t x = e at hr
      match e, hr with
      | [u], hr => exact hr.1
    simp only [cvV] at h
    split at h
    · cases h
    · exact key _ h
end Go.Fz.Sy
/- The symbolic engine, part C: operations that change no block and decide nothing. -/
noncomputable section
namespace Go.Fz.Sy
set_option linter.unusedVariables false
set_option linter.unusedSimpArgs false
variable {P : Program}

/-! ### Equality of structs, field by field -/
def eqF (P : Program) (eq : TypeId → Value → Value → Option Bool) (xs ys : Array Value) : List Field → Option Bool
  | [] => some true
  | f :: fs => if f.name = "_" then eqF P eq xs ys fs else
    match plain P (part f.type xs f.offset), plain P (part f.type ys f.offset) with
    | some x, some y => match eq f.type x y with
      | some b => match eqF P eq xs ys fs with
        | some c => some (b && c)
        | none => none
      | none => none
    | _, _ => none
def eqS (P : Program) : Nat → TypeId → Value → Value → Option Bool
  | 0, _, _, _ => none
  | d + 1, t, x, y => match P.underlying t with
    | some .bool => match x, y with
      | .bool a, .bool b => some (a == b)
      | _, _ => none
    | some (.int _) => match x, y with
      | .int k a, .int k' b => if k = k' then some (a == b) else none
      | _, _ => none
    | some (.struct fields) => match x, y with
      | .agg xs, .agg ys => if P.stoodInHeld t then none else eqF P (eqS P d) xs ys fields.toList
      | _, _ => none
    | _ => none

theorem plain_underlying {t : TypeId} {d : TypeDesc} (h : P.underlying t = some d) : plain P (underlying t) = some d := by
  show plain P (Sem.program fun p => _) = _
  simp only [plain]
  show plain P (Sem.bind (.pure P) _) = _
  simp only [Sem.bind, h]
  rfl
theorem eqF_ok {d : Nat} {xs ys : Array Value} (ih : ∀ (t : TypeId) (x y : Value) (b : Bool), eqS P d t x y = some b → plain P (Op.equalIn d t x y) = some b) : ∀ (fs : List Field) (b : Bool), eqF P (eqS P d) xs ys fs = some b →
    plain P (forIn fs ((none, ()) : Option Bool × Unit) fun f __s =>
            if f.name ≠ "_" then do
              let x ← part f.type xs f.offset
              let y ← part f.type ys f.offset
              let e ← Op.equalIn d f.type x y
              if (!e) = true then pure (ForInStep.done (some false, ())) else pure (ForInStep.yield (none, ()))
            else pure (ForInStep.yield (none, ()))) = some (if b then (none, ()) else (some false, ()))
  | [], b, h => by
    simp only [eqF, Option.some.injEq] at h
    subst h
    rfl
  | f :: fs, b, h => by
    rw [List.forIn_cons]
    show plain P (Sem.bind _ _) = _
    rw [plain_bind]
    simp only [eqF] at h
    split at h
    · rename_i hn
      rw [if_neg (by simp [hn])]
      show (Option.bind (plain P (Sem.pure _)) _) = _
      simp only [plain, Option.bind_some]
      exact eqF_ok ih fs b h
    · rename_i hn
      rw [if_pos hn]
      split at h
      case h_2 => cases h
      rename_i x y hx hy
      split at h
      case h_2 => cases h
      rename_i e he
      split at h
      case h_2 => cases h
      rename_i c hc
      cases h
      show (Option.bind (plain P (Sem.bind _ _)) _) = _
      rw [plain_bind, hx, Option.bind_some]
      show (Option.bind (plain P (Sem.bind _ _)) _) = _
      rw [plain_bind, hy, Option.bind_some]
      show (Option.bind (plain P (Sem.bind _ _)) _) = _
      rw [plain_bind, ih _ _ _ _ he, Option.bind_some]
      cases e with
      | false =>
        simp only [Bool.not_false, if_true, Bool.false_and]
        rfl
      | true =>
        simp only [Bool.not_true, Bool.false_eq_true, if_false, Bool.true_and]
        show (Option.bind (plain P (Sem.pure _)) _) = _
        simp only [plain, Option.bind_some]
        exact eqF_ok ih fs c hc

theorem eqS_ok : ∀ (d : Nat) (t : TypeId) (x y : Value) (b : Bool), eqS P d t x y = some b → plain P (Op.equalIn d t x y) = some b := by
  intro d
  induction d with
  | zero => intro t x y b h; cases h
  | succ d ih =>
    intro t x y b h
    simp only [eqS] at h
    unfold Op.equalIn
    split at h
    · rename_i hu
      split at h
      · cases h
        show plain P ((underlying t).bind _) = _
        rw [plain_bind, plain_underlying hu, Option.bind_some]
        rfl
      · cases h
    · rename_i hu
      split at h
      · split at h
        · rename_i hk
          cases h
          show plain P ((underlying t).bind _) = _
          rw [plain_bind, plain_underlying hu, Option.bind_some]
          simp only [hk, if_true]
          rfl
        · cases h
      · cases h
    · rename_i fields hu
      split at h
      · rename_i xs ys
        split at h
        · cases h
        · rename_i hst
          show plain P ((underlying t).bind _) = _
          rw [plain_bind, plain_underlying hu, Option.bind_some]
          dsimp only
          show plain P (Sem.bind program _) = _
          rw [plain_bind]
          show plain P (if P.stoodInHeld t = true then _ else _) = _
          rw [if_neg hst]
          show plain P (Sem.bind (forIn fields (none, ()) _) _) = _
          rw [plain_bind, ← Array.forIn_toList, eqF_ok ih fields.toList b h]
          cases b <;> rfl
      · cases h
    · cases h

theorem plain_guard {op : BinOp} {t : TypeId} {xo yo : Operand} {xs ys : Array Value} (hg : P.eqGuardType P.depth t = false) (ho : op = .eql ∨ op = .neq) : plain P (eqGuard op t xo yo (.agg xs) (.agg ys)) = some () := by
  rcases ho with rfl | rfl <;>
  · unfold eqGuard
    show plain P (Sem.bind program _) = _
    rw [plain_bind]
    show plain P (Sem.bind program _) = _
    rw [plain_bind]
    show plain P (if (!P.eqGuardType P.depth t) = true then _ else _) = _
    rw [hg]
    rfl
theorem bin_eql {t : TypeId} {xs ys : Array Value} {b : Bool} (hg : P.eqGuardType P.depth t = false) (ha : av (.agg xs) = true) (hb : av (.agg ys) = true) (h : eqS P 10000 t (.agg xs) (.agg ys) = some b) (xo yo : Operand) :
    doBin P .eql t xo yo (.agg xs) (.agg ys) = some (.bool b) ∧ doBin P .neq t xo yo (.agg xs) (.agg ys) = some (.bool (!b)) := by
  have he := eqS_ok 10000 t _ _ b h
  constructor
  · unfold doBin sc
    simp only [ha, hb, Bool.and_self, if_true]
    have : plain P (do eqGuard .eql t xo yo (.agg xs) (.agg ys); binOp .eql t (.agg xs) (.agg ys)) = some (.bool b) := by
      show plain P (Sem.bind _ _) = _
      rw [plain_bind, plain_guard hg (.inl rfl), Option.bind_some]
      show plain P (Sem.bind (Op.equalIn 10000 t _ _) _) = _
      rw [plain_bind, he]
      rfl
    rw [this]
    rfl
  · unfold doBin sc
    simp only [ha, hb, Bool.and_self, if_true]
    have : plain P (do eqGuard .neq t xo yo (.agg xs) (.agg ys); binOp .neq t (.agg xs) (.agg ys)) = some (.bool (!b)) := by
      show plain P (Sem.bind _ _) = _
      rw [plain_bind, plain_guard hg (.inr rfl), Option.bind_some]
      show plain P (Sem.bind (Op.equalIn 10000 t _ _) _) = _
      rw [plain_bind, he]
      rfl
    rw [this]
    rfl

/-! ### Operands -/
def ofC1 : Value → Option SV
  | .bool b => some (.bool b)
  | .int k n => some (.int k n)
  | .string s => some (.str s)
  | .pointer none => some .nilp
  | .slice none 0 0 => some .nils
  | .nilFunc => some .nilf
  | _ => none
def ofCL : List Value → Option (List SV)
  | [] => some []
  | v :: r => match ofC1 v, ofCL r with
    | some x, some xs => some (x :: xs)
    | _, _ => none
def ofC : Value → Option SV
  | .agg cs => (ofCL cs.toList).map .agg
  | .tuple vs => (ofCL vs.toList).map .tup
  | .func (.func f) ⟨[]⟩ ⟨[]⟩ => some (.fn f [] [])
  | v => ofC1 v
theorem ofC1_den {ρ : Nat → Value} {v : Value} {x : SV} (h : ofC1 v = some x) : den ρ x = v ∧ av1 v = true := by
  unfold ofC1 at h
  split at h <;> first | (cases h; exact ⟨by simp [den], rfl⟩) | cases h
theorem ofCL_den {ρ : Nat → Value} : ∀ {vs : List Value} {xs : List SV}, ofCL vs = some xs → denL ρ xs = vs ∧ avL vs = true
  | [], xs, h => by simp only [ofCL, Option.some.injEq] at h; subst h; exact ⟨by simp [denL], rfl⟩
  | v :: r, xs, h => by
    simp only [ofCL] at h
    split at h
    · rename_i x ys h1 h2
      cases h
      obtain ⟨e1, e2⟩ := ofC1_den (ρ := ρ) h1
      obtain ⟨e3, e4⟩ := ofCL_den (ρ := ρ) h2
      exact ⟨by simp [denL, e1, e3], by simp [avL, e2, e4]⟩
    · cases h
theorem ofC_den {ρ : Nat → Value} {v : Value} {x : SV} (h : ofC v = some x) : den ρ x = v ∧ av v = true := by
  unfold ofC at h
  split at h
  · simp only [Option.map_eq_some_iff] at h
    obtain ⟨xs, h1, rfl⟩ := h
    obtain ⟨e1, e2⟩ := ofCL_den (ρ := ρ) h1
    exact ⟨by simp [den, e1], by simpa [av] using e2⟩
  · simp only [Option.map_eq_some_iff] at h
    obtain ⟨xs, h1, rfl⟩ := h
    obtain ⟨e1, e2⟩ := ofCL_den (ρ := ρ) h1
    exact ⟨by simp [den, e1], by simpa [av] using e2⟩
  · cases h
    exact ⟨by simp [den, denL], rfl⟩
  · obtain ⟨e1, e2⟩ := ofC1_den (ρ := ρ) h
    refine ⟨e1, ?_⟩
    cases v <;> first | exact e2 | (simp [av1] at e2; done) | (simp [ofC1] at h)

/-- A value that may be handed on: no slot of which nothing is known, no slice of an unknown array. -/
def okV (H : SH) : SV → Bool
  | .junk => false
  | .own b => (reg (sget H b)).isSome
  | _ => true
def sopv (tm : List SV) (H : SH) : Operand → Option SV
  | .tmp t => match gl tm t with
    | some v => bif okV H v then some v else none
    | none => none
  | .const c => ofC c
  | .func f => some (.fn f [] [])
  | .global _ => none
theorem sopv_den {tm : List SV} {H : SH} {x : Operand} {v : SV} (h : sopv tm H x = some v) (ν : Nat → Bool) : opv (denL (rho ν H) tm) x = some (den (rho ν H) v) := by
  unfold sopv at h
  split at h
  · rename_i t
    split at h
    case h_2 => cases h
    rename_i u hu
    cases hk : okV H u with
    | false => rw [hk] at h; cases h
    | true =>
      rw [hk] at h
      cases h
      rw [gl_eq] at hu
      have h1 : (denL (rho ν H) tm)[t]? = some (den (rho ν H) v) := by rw [denL_map, List.getElem?_map, hu]; rfl
      simp only [opv, lg_eq, h1]
      cases v <;> simp only [den, fzV, okV, Bool.false_eq_true] at hk ⊢
      rename_i b
      unfold rho
      cases hr : reg (sget H b) with
      | none => rw [hr] at hk; cases hk
      | some x => obtain ⟨n, s⟩ := x; cases s <;> rfl
  · obtain ⟨e1, e2⟩ := ofC_den (ρ := rho ν H) h
    simp only [opv, e2, if_true, e1]
  · cases h
    simp [opv, den, denL]
  · cases h
def sopvs (tm : List SV) (H : SH) : List Operand → Option (List SV)
  | [] => some []
  | x :: xs => match sopv tm H x, sopvs tm H xs with
    | some v, some vs => some (v :: vs)
    | _, _ => none
theorem sopvs_den {tm : List SV} {H : SH} (ν : Nat → Bool) : ∀ {xs : List Operand} {vs : List SV}, sopvs tm H xs = some vs → opvs (denL (rho ν H) tm) xs = some (denL (rho ν H) vs)
  | [], vs, h => by simp only [sopvs, Option.some.injEq] at h; subst h; simp [opvs, denL]
  | x :: xs, vs, h => by
    simp only [sopvs] at h
    split at h
    · rename_i v us h1 h2
      cases h
      simp only [opvs, sopv_den h1 ν, sopvs_den ν h2, denL]
    · cases h
def sparts (tm : List SV) (H : SH) : List (Nat × Operand) → Option (List (Nat × SV))
  | [] => some []
  | x :: xs => match sopv tm H x.2, sparts tm H xs with
    | some v, some vs => some ((x.1, v) :: vs)
    | _, _ => none
theorem sparts_den {tm : List SV} {H : SH} (ν : Nat → Bool) : ∀ {xs : List (Nat × Operand)} {vs : List (Nat × SV)}, sparts tm H xs = some vs → partsv (denL (rho ν H) tm) xs = some (vs.map fun p => (p.1, den (rho ν H) p.2))
  | [], vs, h => by simp only [sparts, Option.some.injEq] at h; subst h; simp [partsv]
  | x :: xs, vs, h => by
    simp only [sparts] at h
    split at h
    · rename_i v us h1 h2
      cases h
      simp only [partsv, sopv_den h1 ν, sparts_den ν h2, List.map_cons]
    · cases h
def sopvo (tm : List SV) (H : SH) : Option Operand → Option (Option SV)
  | none => some none
  | some x => (sopv tm H x).map some
theorem sopvo_den {tm : List SV} {H : SH} {x : Option Operand} {v : Option SV} (h : sopvo tm H x = some v) (ν : Nat → Bool) : opvo (denL (rho ν H) tm) x = some (v.map (den (rho ν H))) := by
  cases x with
  | none => simp only [sopvo, Option.some.injEq] at h; subst h; rfl
  | some x =>
    simp only [sopvo, Option.map_eq_some_iff] at h
    obtain ⟨u, h1, rfl⟩ := h
    simp only [opvo, sopv_den h1 ν, Option.map_some]

/-! ### Parts of structs -/
def partS (P : Program) (t : TypeId) (cs : List SV) (off : Nat) : Option SV :=
  match undF P t, infoF P t with
  | some d, some i => bif aggD d then some (.agg ((cs.drop off).take i.size)) else gl cs off
  | _, _ => none
theorem denL_drop (ρ : Nat → Value) (cs : List SV) (n : Nat) : denL ρ (cs.drop n) = (denL ρ cs).drop n := by simp [denL_map]
theorem denL_take (ρ : Nat → Value) (cs : List SV) (n : Nat) : denL ρ (cs.take n) = (denL ρ cs).take n := by simp [denL_map]
theorem denL_length (ρ : Nat → Value) (cs : List SV) : (denL ρ cs).length = cs.length := by simp [denL_map]
theorem denL_get (ρ : Nat → Value) (cs : List SV) (n : Nat) : (denL ρ cs)[n]? = (cs[n]?).map (den ρ) := by simp [denL_map]
theorem partS_den {ρ : Nat → Value} {t : TypeId} {cs : List SV} {off : Nat} {v : SV} (h : partS P t cs off = some v) : doPart P t (denL ρ cs) off = some (den ρ v) := by
  unfold partS at h
  unfold doPart
  split at h
  · rename_i d i hd hi
    simp only [hd, hi]
    cases ha : aggD d with
    | true =>
      rw [ha] at h
      cases h
      simp [den, denL_take, denL_drop]
    | false =>
      rw [ha] at h
      simp only [cond_false, gl_eq] at h
      simp [denL_get, h]
  · cases h
def fieldS (P : Program) (t : TypeId) (f : Nat) : SV → Option SV
  | .agg cs => match undF P t with
    | some (.struct fields) => match gl fields.toList f with
      | some fl => partS P fl.type cs fl.offset
      | none => none
    | _ => none
  | _ => none
theorem fieldS_den {ρ : Nat → Value} {t : TypeId} {f : Nat} {x v : SV} (h : fieldS P t f x = some v) : doField P t f (den ρ x) = some (den ρ v) := by
  unfold fieldS at h
  split at h
  case h_2 => cases h
  split at h
  case h_2 => cases h
  rename_i fields hu
  split at h
  case h_2 => cases h
  rename_i fl hf
  rw [gl_eq] at hf
  have hf' : fields[f]? = some fl := by rw [← hf, Array.getElem?_toList]
  simp only [den, doField, hu, hf']
  exact partS_den h
/-- A field's place: its offset. -/
def fieldOff (P : Program) (s : TypeId) (f : Nat) : Option Nat := match undF P s with
  | some (.struct fields) => match gl fields.toList f with
    | some fl => match infoF P fl.type with
      | some i => bif Nat.beq i.size 0 then none else some fl.offset
      | none => none
    | none => none
  | _ => none
theorem fieldOff_some {s : TypeId} {f n : Nat} (h : fieldOff P s f = some n) : ∃ fields fl i, undF P s = some (.struct fields) ∧ fields[f]? = some fl ∧ infoF P fl.type = some i ∧ i.size ≠ 0 ∧ n = fl.offset := by
  unfold fieldOff at h
  split at h
  case h_2 => cases h
  rename_i fields hu
  split at h
  case h_2 => cases h
  rename_i fl hf
  split at h
  case h_2 => cases h
  rename_i i hi
  rw [gl_eq] at hf
  have hf' : fields[f]? = some fl := by rw [← hf, Array.getElem?_toList]
  cases hz : Nat.beq i.size 0 with
  | true => rw [hz] at h; cases h
  | false =>
    rw [hz] at h
    cases h
    exact ⟨fields, fl, i, hu, hf', hi, Nat.ne_of_beq_eq_false hz, rfl⟩
def fieldAddrS (P : Program) (s : TypeId) (f : Nat) (x : SV) : Option SV := match fieldOff P s f with
  | some n => match x with
    | .ptr b o => some (.ptr b (o + n))
    | .elp b z i k => some (.elp b z i (k + n))
    | .fel t y k => some (.fel t y (k + n))
    | _ => none
  | none => none
theorem fieldAddrS_den {ρ : Nat → Value} {s : TypeId} {f : Nat} {x v : SV} (h : fieldAddrS P s f x = some v) :
    (match doFieldAddr P s f (den ρ x) with | some u => some u | none => fzField P s f (den ρ x)) = some (den ρ v) := by
  unfold fieldAddrS at h
  split at h
  case h_2 => cases h
  rename_i n hn
  obtain ⟨fields, fl, i, h1, h2, h3, h4, rfl⟩ := fieldOff_some hn
  split at h
  · cases h
    simp only [den, doFieldAddr, h1, h2, h3, h4, if_false]
  · cases h
    simp only [den, doFieldAddr, h1, h2, h3, h4, if_false, Nat.add_assoc]
  · cases h
    simp only [den, doFieldAddr, fzField, fpOf, h1, h2, h3, h4, if_false]
  · cases h

/-! ### Loads -/
def loadCs (P : Program) (t : TypeId) (cs : List SV) (o : Nat) : Option SV := match undF P t, infoF P t with
  | some d, some i => bif aggD d then (bif Nat.ble (o + i.size) cs.length then some (.agg ((cs.drop o).take i.size)) else none) else gl cs o
  | _, _ => none
def loadS (P : Program) (H : SH) (t : TypeId) : SV → Option SV
  | .ptr b o => match sget H b with
    | some (.vars cs) => loadCs P t cs o
    | some (.ro cs) => loadCs P t cs o
    | _ => none
  | .fel ty x k => loadCs P t (encL ty x) k
  | _ => none
theorem loadCs_cells {ρ : Nat → Value} {t : TypeId} {cs : List SV} {o : Nat} {v : SV} (h : loadCs P t cs o = some v) {Hd : Hp} {b : Nat} {ro : Bool} (hb : Hd.get b = some (.cells (denL ρ cs) ro)) :
    doLoad P Hd t (.pointer (some ⟨b, o, none⟩)) = some (den ρ v) := by
  unfold loadCs at h
  split at h
  case h_2 => cases h
  rename_i d i hd hi
  simp only [doLoad, hb, hd, hi]
  cases ha : aggD d with
  | true =>
    rw [ha] at h
    simp only [cond_true] at h
    obtain ⟨h1, h2⟩ := cond_some h
    cases h2
    have h3 := Nat.le_of_ble_eq_true h1
    simp [den, denL_take, denL_drop, denL_length, h3]
  | false =>
    rw [ha] at h
    simp only [cond_false, gl_eq] at h
    simp [denL_get, h]
theorem loadCs_fz {ρ : Nat → Value} {t : TypeId} {ty : Ty} {x : T ty} {k : Nat} {v : SV} (h : loadCs P t (encL ty x) k = some v) : fzLoad P t (den ρ (.fel ty x k)) = some (den ρ v) := by
  unfold loadCs at h
  split at h
  case h_2 => cases h
  rename_i d i hd hi
  have he : encC ty x = denL ρ (encL ty x) := by rw [denL_map, encL_den]
  simp only [den, fzLoad, fpOf, hd, hi, encE, Value.cells]
  cases ha : aggD d with
  | true =>
    rw [ha] at h
    simp only [cond_true] at h
    obtain ⟨h1, h2⟩ := cond_some h
    cases h2
    have h3 := Nat.le_of_ble_eq_true h1
    rw [encL_len] at h3
    simp [den, denL_take, denL_drop, he]
    rw [← he, encC_len]; exact h3
  | false =>
    rw [ha] at h
    simp only [cond_false, gl_eq] at h
    simp [he, denL_get, h]
theorem loadS_den {ν : Nat → Bool} {H : SH} {t : TypeId} {a v : SV} (h : loadS P H t a = some v) :
    (match doLoad P (denH ν H) t (den (rho ν H) a) with | some u => some u | none => fzLoad P t (den (rho ν H) a)) = some (den (rho ν H) v) := by
  unfold loadS at h
  split at h
  · rename_i b o
    split at h
    · rename_i cs hb
      have hd : (denH ν H).get b = some (.cells (denL (rho ν H) cs) false) := by rw [denH_get, hb]; rfl
      simp only [den, loadCs_cells h hd]
    · rename_i cs hb
      have hd : (denH ν H).get b = some (.cells (denL (rho ν H) cs) true) := by rw [denH_get, hb]; rfl
      simp only [den, loadCs_cells h hd]
    · cases h
  · rename_i ty x k
    have : doLoad P (denH ν H) t (den (rho ν H) (.fel ty x k)) = none := by simp [den, doLoad]
    rw [this]
    exact loadCs_fz h
  · cases h
end Go.Fz.Sy
/- The symbolic engine, part D: operators, structs built, what is decided by nothing. -/
noncomputable section
namespace Go.Fz.Sy
set_option linter.unusedVariables false
set_option linter.unusedSimpArgs false
variable {P : Program}

/-! ### Integers -/
def bitI (op : BinOp) (k : IntKind) (x y : Int) : Int := match op with
  | .and => k.wrap ((BitVec.ofInt k.bits x &&& BitVec.ofInt k.bits y).toNat)
  | .or => k.wrap ((BitVec.ofInt k.bits x ||| BitVec.ofInt k.bits y).toNat)
  | .xor => k.wrap ((BitVec.ofInt k.bits x ^^^ BitVec.ofInt k.bits y).toNat)
  | _ => k.wrap ((BitVec.ofInt k.bits x &&& ~~~BitVec.ofInt k.bits y).toNat)
def binI (op : BinOp) (k : IntKind) (x y : Int) : Option SV := match op with
  | .add => some (.int k (wrF k (x + y)))
  | .sub => some (.int k (wrF k (x - y)))
  | .mul => some (.int k (wrF k (x * y)))
  | .eql => some (.bool (ieqF x y))
  | .neq => some (.bool (!ieqF x y))
  | .lss => some (.bool (iltF x y))
  | .leq => some (.bool (!iltF y x))
  | .gtr => some (.bool (iltF y x))
  | .geq => some (.bool (!iltF x y))
  | .and => some (.int k (bitI .and k x y))
  | .or => some (.int k (bitI .or k x y))
  | .xor => some (.int k (bitI .xor k x y))
  | .andNot => some (.int k (bitI .andNot k x y))
  | _ => none
theorem keqF_refl (k : IntKind) : keqF k k = true := by cases k <;> rfl
theorem bits_bin {t : TypeId} {op : BinOp} {k : IntKind} {a b r : Int} (h : plain P (Op.intBits op k a b) = some (.int k r)) (ho : op = .and ∨ op = .or ∨ op = .xor ∨ op = .andNot) (xo yo : Operand) : doBin P op t xo yo (.int k a) (.int k b) = some (.int k r) := by
  have h1 : binF op (.int k a) (.int k b) = none := by
    unfold binF
    simp only [keqF_refl, cond_true]
    rcases ho with rfl | rfl | rfl | rfl <;> rfl
  have : plain P (do eqGuard op t xo yo (.int k a) (.int k b); binOp op t (.int k a) (.int k b)) = some (.int k r) := by
    rcases ho with rfl | rfl | rfl | rfl <;>
    · show plain P (if k ≠ k then stuck _ else _) = _
      rw [if_neg (by simp)]; exact h
  unfold doBin sc
  rw [h1, this]
  rfl
theorem binI_den {ρ : Nat → Value} {t : TypeId} {op : BinOp} {k : IntKind} {a b : Int} {v : SV} (h : binI op k a b = some v) (xo yo : Operand) : doBin P op t xo yo (.int k a) (.int k b) = some (den ρ v) := by
  unfold binI at h
  split at h <;> first | (cases h; done) | skip
  all_goals first
    | (cases h; unfold doBin binF; simp only [keqF_refl, cond_true, den]; done)
    | (cases h; exact bits_bin (P := P) (t := t) rfl (by simp) xo yo)
def boolB (op : BinOp) (a b : Bool) : Option SV := match op with
  | .eql => some (.bool (a == b))
  | .neq => some (.bool (!(a == b)))
  | _ => none
theorem boolB_den {ρ : Nat → Value} {t : TypeId} {d : TypeDesc} (hu : undF P t = some d) (hd : d = .bool) {op : BinOp} {a b : Bool} {v : SV} (h : boolB op a b = some v) (xo yo : Operand) : doBin P op t xo yo (.bool a) (.bool b) = some (den ρ v) := by
  subst hd
  rw [undF_eq] at hu
  have he : plain P (Op.equalIn 10000 t (.bool a) (.bool b)) = some (a == b) := eqS_ok 10000 t _ _ _ (by simp [eqS, hu])
  unfold boolB at h
  split at h
  · cases h
    have : plain P (do eqGuard .eql t xo yo (.bool a) (.bool b); binOp .eql t (.bool a) (.bool b)) = some (.bool (a == b)) := by
      show plain P (Sem.bind (Op.equalIn 10000 t _ _) _) = _
      rw [plain_bind, he]; rfl
    have hb : ∀ op, binF op (.bool a) (.bool b) = none := fun _ => rfl
    unfold doBin sc
    rw [hb, this]
    simp [den, av, av1]
  · cases h
    have : plain P (do eqGuard .neq t xo yo (.bool a) (.bool b); binOp .neq t (.bool a) (.bool b)) = some (.bool (!(a == b))) := by
      show plain P (Sem.bind (Op.equalIn 10000 t _ _) _) = _
      rw [plain_bind, he]; rfl
    have hb : ∀ op, binF op (.bool a) (.bool b) = none := fun _ => rfl
    unfold doBin sc
    rw [hb, this]
    simp [den, av, av1]
  · cases h

/-! ### Equality of structs -/
def eqFS (P : Program) (eq : TypeId → SV → SV → Option Bool) (xs ys : List SV) : List Field → Option Bool
  | [] => some true
  | f :: fs => if f.name = "_" then eqFS P eq xs ys fs else
    match partS P f.type xs f.offset, partS P f.type ys f.offset with
    | some x, some y => match eq f.type x y with
      | some b => match eqFS P eq xs ys fs with
        | some c => some (b && c)
        | none => none
      | none => none
    | _, _ => none
def eqSS (P : Program) : Nat → TypeId → SV → SV → Option Bool
  | 0, _, _, _ => none
  | d + 1, t, x, y => match undF P t with
    | some .bool => match x, y with
      | .bool a, .bool b => some (a == b)
      | _, _ => none
    | some (.int _) => match x, y with
      | .int k a, .int k' b => bif keqF k k' then some (ieqF a b) else none
      | _, _ => none
    | some (.struct fields) => match x, y with
      | .agg xs, .agg ys => bif P.stoodInHeld t then none else eqFS P (eqSS P d) xs ys fields.toList
      | _, _ => none
    | _ => none
theorem plain_part {t : TypeId} {cs : Array Value} {off : Nat} {v : Value} (h : doPart P t cs.toList off = some v) : plain P (part t cs off) = some v := by
  unfold doPart at h
  split at h
  case h_2 => cases h
  rename_i d i hu hi
  rw [undF_eq] at hu
  rw [infoF_eq] at hi
  have h1 : plain P (isAgg t) = some (aggD d) := by
    unfold isAgg
    show plain P ((underlying t).bind _) = _
    rw [plain_bind, plain_underlying hu, Option.bind_some]
    cases d <;> rfl
  have h2 : plain P (sizeOf t) = some i.size := by
    unfold sizeOf typeInfo
    show plain P (Sem.bind (Sem.bind program _) _) = _
    rw [plain_bind, plain_bind]
    show Option.bind (Option.bind (some P) _) _ = _
    simp only [Option.bind_some]
    rw [hi]
    rfl
  unfold part
  show plain P (Sem.bind (isAgg t) _) = _
  rw [plain_bind, h1, Option.bind_some]
  cases ha : aggD d with
  | true =>
    rw [ha] at h
    simp only [if_true, Option.some.injEq] at h
    subst h
    simp only [if_true]
    show plain P (Sem.bind (sizeOf t) _) = _
    rw [plain_bind, h2, Option.bind_some]
    show some _ = some _
    congr 2
    apply Array.ext'
    rw [extract_toList]
  | false =>
    rw [ha] at h
    simp only [Bool.false_eq_true, if_false] at h ⊢
    have : cs[off]? = some v := by rw [← h, Array.getElem?_toList]
    rw [this]
    rfl
theorem eqFS_den {ρ : Nat → Value} {eq : TypeId → SV → SV → Option Bool} {eqV : TypeId → Value → Value → Option Bool} (ih : ∀ t x y b, eq t x y = some b → eqV t (den ρ x) (den ρ y) = some b) {xs ys : List SV} : ∀ {fs : List Field} {b : Bool}, eqFS P eq xs ys fs = some b →
    eqF P eqV (denL ρ xs).toArray (denL ρ ys).toArray fs = some b
  | [], b, h => by simpa [eqFS, eqF] using h
  | f :: fs, b, h => by
    simp only [eqFS] at h
    simp only [eqF]
    split at h
    · rename_i hn
      rw [if_pos hn]; exact eqFS_den ih h
    · rename_i hn
      rw [if_neg hn]
      split at h
      case h_2 => cases h
      rename_i x y hx hy
      split at h
      case h_2 => cases h
      rename_i e he
      split at h
      case h_2 => cases h
      rename_i c hc
      cases h
      have h1 := plain_part (cs := (denL ρ xs).toArray) (partS_den (ρ := ρ) hx)
      have h2 := plain_part (cs := (denL ρ ys).toArray) (partS_den (ρ := ρ) hy)
      simp only [h1, h2, ih _ _ _ _ he, eqFS_den ih hc]
theorem eqSS_den {ρ : Nat → Value} : ∀ (d : Nat) (t : TypeId) (x y : SV) (b : Bool), eqSS P d t x y = some b → eqS P d t (den ρ x) (den ρ y) = some b
  | 0, _, _, _, _, h => by cases h
  | d + 1, t, x, y, b, h => by
    simp only [eqSS, undF_eq] at h
    simp only [eqS]
    split at h
    · rename_i hu
      split at h
      · cases h; simp [hu, den]
      · cases h
    · rename_i hu
      split at h
      · obtain ⟨h1, h2⟩ := cond_some h
        cases h2
        have := keqF_eq h1
        subst this
        simp [hu, den, ieqF_eq]
      · cases h
    · rename_i fields hu
      split at h
      · cases hst : P.stoodInHeld t with
        | true => rw [hst] at h; cases h
        | false =>
          rw [hst] at h
          simp only [hu, den, Bool.false_eq_true, if_false]
          exact eqFS_den (fun t x y b => eqSS_den d t x y b) h
      · cases h
    · cases h
/-- Cells that name nothing. -/
def plainC : List SV → Bool
  | [] => true
  | v :: r => (match v with | .bool _ => true | .int _ _ => true | .str _ => true | _ => false) && plainC r
theorem plainC_den {ρ : Nat → Value} : ∀ {cs : List SV}, plainC cs = true → avL (denL ρ cs) = true
  | [], _ => rfl
  | v :: r, h => by
    simp only [plainC, Bool.and_eq_true] at h
    simp only [denL, avL, Bool.and_eq_true]
    refine ⟨?_, plainC_den h.2⟩
    cases v <;> simp at h <;> simp [den, av1]
def eqB (P : Program) (op : BinOp) (t : TypeId) (xs ys : List SV) : Option SV :=
  bif plainC xs && (plainC ys && !P.eqGuardType P.depth t) then
    match eqSS P 10000 t (.agg xs) (.agg ys) with
    | some b => match op with
      | .eql => some (.bool b)
      | .neq => some (.bool (!b))
      | _ => none
    | none => none
  else none
theorem eqB_den {ρ : Nat → Value} {op : BinOp} {t : TypeId} {xs ys : List SV} {v : SV} (h : eqB P op t xs ys = some v) (xo yo : Operand) : doBin P op t xo yo (den ρ (.agg xs)) (den ρ (.agg ys)) = some (den ρ v) := by
  unfold eqB at h
  obtain ⟨h1, h⟩ := cond_some h
  simp only [Bool.and_eq_true, Bool.not_eq_true'] at h1
  obtain ⟨h1, h2, h3⟩ := h1
  split at h
  case h_2 => cases h
  rename_i b hb
  have h4 := eqSS_den (ρ := ρ) _ _ _ _ _ hb
  simp only [den] at h4 ⊢
  have h5 := bin_eql h3 (by simpa [av] using plainC_den h1) (by simpa [av] using plainC_den h2) h4 xo yo
  split at h
  · cases h; simpa [den] using h5.1
  · cases h; simpa [den] using h5.2
  · cases h

/-- Values without symbolic lists, as they are. -/
def toV : SV → Option Value
  | .bool b => some (.bool b)
  | .int k n => some (.int k n)
  | .str s => some (.string s)
  | .nilp => some (.pointer none)
  | .nils => some (.slice none 0 0)
  | .nilf => some .nilFunc
  | _ => none
theorem toV_den {ρ : Nat → Value} {v : SV} {u : Value} (h : toV v = some u) : den ρ v = u := by
  unfold toV at h
  split at h <;> first | (cases h; simp [den]; done) | cases h
def resB (op : BinOp) (r : Bool) : Option SV := match op with
  | .eql => some (.bool r)
  | .neq => some (.bool (!r))
  | _ => none
/-- Against nil. -/
def nilB (P : Program) (op : BinOp) (t : TypeId) (a b : SV) : Option SV := match undF P t with
  | some d =>
    let r : Option Bool := match d, a, b with
      | .pointer _, .ptr _ _, .nilp => some false
      | .pointer _, .nilp, .ptr _ _ => some false
      | _, _, _ => none
    match r with
    | some r => resB op r
    | none => none
  | none => none
theorem nilB_den {ρ : Nat → Value} {op : BinOp} {t : TypeId} {a b v : SV} (h : nilB P op t a b = some v) (xo yo : Operand) : doBin P op t xo yo (den ρ a) (den ρ b) = some (den ρ v) := by
  unfold nilB at h
  split at h
  case h_2 => cases h
  rename_i d hd
  dsimp only at h
  have key : ∀ (r : Bool), nilCmp P t (den ρ a) (den ρ b) = some r → (av (den ρ a) && av (den ρ b)) = false → binF op (den ρ a) (den ρ b) = none → resB op r = some v → doBin P op t xo yo (den ρ a) (den ρ b) = some (den ρ v) := by
    intro r h1 h2 h3 h4
    unfold resB at h4
    unfold doBin
    rw [h3]
    simp only [h2, Bool.false_eq_true, if_false]
    split at h4
    · cases h4; simp [h1, den]
    · cases h4; simp [h1, den]
    · cases h4
  split at h
  case h_2 => cases h
  rename_i r hr
  split at hr
  · cases hr; exact key false (by simp [nilCmp, nilEq, den, hd, fitsD]) (by simp [den, av, av1]) (by simp [den, binF]) h
  · cases hr; exact key false (by simp [nilCmp, nilEq, den, hd, fitsD]) (by simp [den, av, av1]) (by simp [den, binF]) h
  · cases hr
def isBoolD : Option TypeDesc → Bool
  | some .bool => true
  | _ => false
def binS (P : Program) (op : BinOp) (t : TypeId) (xo yo : Operand) (a b : SV) : Option SV := match a, b with
  | .int k x, .int k' y => bif keqF k k' then binI op k x y else none
  | .bool x, .bool y => bif isBoolD (undF P t) then boolB op x y else none
  | .agg xs, .agg ys => eqB P op t xs ys
  | .str x, .str y => match doBin P op t xo yo (.string x) (.string y) with
    | some u => ofC u
    | none => none
  | a, b => match toV a, toV b with
    | some x, some y => match doBin P op t xo yo x y with
      | some u => ofC u
      | none => none
    | _, _ => nilB P op t a b
theorem binS_den {ρ : Nat → Value} {op : BinOp} {t : TypeId} {xo yo : Operand} {a b v : SV} (h : binS P op t xo yo a b = some v) : doBin P op t xo yo (den ρ a) (den ρ b) = some (den ρ v) := by
  unfold binS at h
  split at h
  · obtain ⟨h1, h2⟩ := cond_some h
    have := keqF_eq h1
    subst this
    simp only [den]
    exact binI_den h2 xo yo
  · obtain ⟨h1, h⟩ := cond_some h
    unfold isBoolD at h1
    split at h1
    · rename_i hu
      simp only [den]
      exact boolB_den hu rfl h xo yo
    · cases h1
  · exact eqB_den h xo yo
  · split at h
    · rename_i u hu
      simp only [den, hu, (ofC_den (ρ := ρ) h).1]
    · cases h
  · split at h
    · rename_i x y hx hy
      split at h
      · rename_i u hu
        rw [toV_den (ρ := ρ) hx, toV_den (ρ := ρ) hy, hu, (ofC_den (ρ := ρ) h).1]
      · cases h
    · exact nilB_den h xo yo

def unS (P : Program) (op : UnOp) (a : SV) : Option SV := match op, a with
  | .not, .bool b => some (.bool (!b))
  | .neg, .int k n => some (.int k (wrF k (0 - n)))
  | op, a => match toV a with
    | some x => match doUn P op x with
      | some u => ofC u
      | none => none
    | none => none
theorem unS_den {ρ : Nat → Value} {op : UnOp} {a v : SV} (h : unS P op a = some v) : doUn P op (den ρ a) = some (den ρ v) := by
  unfold unS at h
  split at h
  · cases h; simp [den, doUn]
  · rename_i k n
    cases h
    have : plain P (Op.unary .neg (.int k n)) = some (.int k (k.wrap (0 - n))) := rfl
    simp [den, doUn, av, av1, sc, this, wrF_eq]
  · split at h
    · rename_i x hx
      split at h
      · rename_i u hu
        rw [toV_den (ρ := ρ) hx, hu, (ofC_den (ρ := ρ) h).1]
      · cases h
    · cases h

def convS (P : Program) (s d : TypeId) (a : SV) : Option SV := match a with
  | .int k n => match undF P s, undF P d with
    | some _, some (.int k') => some (.int k' (wrF k' n))
    | _, _ => none
  | a => match toV a with
    | some x => match doConv P s d x with
      | some u => ofC u
      | none => none
    | none => none
theorem convS_den {ρ : Nat → Value} {s d : TypeId} {a v : SV} (h : convS P s d a = some v) : doConv P s d (den ρ a) = some (den ρ v) := by
  unfold convS at h
  split at h
  · rename_i k n
    split at h
    · rename_i ds k' h1 h2
      cases h
      rw [undF_eq] at h1 h2
      have : plain P (convert s d (.int k n)) = some (.int k' (k'.wrap n)) := by
        unfold convert
        show plain P ((underlying s).bind _) = _
        rw [plain_bind, plain_underlying h1, Option.bind_some]
        show plain P ((underlying d).bind _) = _
        rw [plain_bind, plain_underlying h2, Option.bind_some]
        cases ds <;> rfl
      simp [den, doConv, av, av1, sc, this, wrF_eq]
    · cases h
  · split at h
    · rename_i x hx
      split at h
      · rename_i u hu
        rw [toV_den (ρ := ρ) hx, hu, (ofC_den (ρ := ρ) h).1]
      · cases h
    · cases h
end Go.Fz.Sy
/- The symbolic engine, part E: what an operation comes to; operations without a decision. -/
noncomputable section
namespace Go.Fz.Sy
set_option linter.unusedVariables false
set_option linter.unusedSimpArgs false
variable {P : Program} {φ : Ren} {K : Nat → Prop} {w : World}

/-! ### What slices of ours stand for grows -/
theorem denLoop_rel {ρ ρ' : Nat → Value} (hρ : ∀ b, ρ b ≠ Fz.junk) (h : RLe ρ ρ') {L : SL} {Lc : Loc} (hb : BRel φ w Lc (.loop (denLoop ρ L))) : BRel φ w Lc (.loop (denLoop ρ' L)) := by
  obtain ⟨l', h1, h2, h3, h4, h5, h6, h7, D, h8, h9⟩ := hb
  exact ⟨l', h1, h2, h3, by simpa [denLoop] using trel_mono hρ h (by simpa [denLoop] using h4), h5, h6, h7, D, h8, h9⟩
theorem denB_rel {ρ ρ' : Nat → Value} (hρ : ∀ b, ρ b ≠ Fz.junk) (h : RLe ρ ρ') {nil : Bool} {k : SB} {x : Blk} (hx : denB ρ nil k = some x) : ∃ x', denB ρ' nil k = some x' ∧ x'.rw = x.rw ∧ ∀ φ w L, BRel φ w L x → BRel φ w L x' := by
  have key : ∀ (cs : List SV) (ro : Bool) (φ : Ren) (w : World) (L : Loc), BRel φ w L (.cells (denL ρ cs) ro) → BRel φ w L (.cells (denL ρ' cs) ro) := by
    rintro cs ro φ w L ⟨arr, el, fr, h1, h2, h3⟩
    refine ⟨arr, el, fr, h1, fun j v hv => ?_, h3⟩
    rw [denL_get, Option.map_eq_some_iff] at hv
    obtain ⟨u, hu, rfl⟩ := hv
    obtain ⟨v', e1, e2⟩ := h2 j (den ρ u) (by rw [denL_get, hu]; rfl)
    exact ⟨v', e1, den_mono h u v' e2⟩
  cases k with
  | vars cs => simp only [denB, Option.some.injEq] at hx; subst hx; exact ⟨_, rfl, rfl, key cs false⟩
  | ro cs => simp only [denB, Option.some.injEq] at hx; subst hx; exact ⟨_, rfl, rfl, key cs true⟩
  | loop L => simp only [denB, Option.some.injEq] at hx; subst hx; exact ⟨_, rfl, rfl, fun φ w Lc hb => denLoop_rel hρ h hb⟩
  | arr nn t l => exact ⟨x, hx, rfl, fun _ _ _ hb => hb⟩
  | roa nn t l => exact ⟨x, hx, rfl, fun _ _ _ hb => hb⟩
  | fro nn t l => exact ⟨x, hx, rfl, fun _ _ _ hb => hb⟩
  | gone s n => exact ⟨x, hx, rfl, fun _ _ _ hb => hb⟩
  | defd => exact ⟨x, hx, rfl, fun _ _ _ hb => hb⟩
  | hid => exact ⟨x, hx, rfl, fun _ _ _ hb => hb⟩
  | mpb k ag t l => exact ⟨x, hx, rfl, fun _ _ _ hb => hb⟩
  | abs => exact ⟨x, hx, rfl, fun _ _ _ hb => hb⟩
theorem good_rho {ν : Nat → Bool} {ρ ρ' : Nat → Value} (hρ : ∀ b, ρ b ≠ Fz.junk) (h : RLe ρ ρ') {H : SH} (g : Good φ (denHr ν ρ H) K w) : Good φ (denHr ν ρ' H) K w := by
  have back : ∀ b k, (denHr ν ρ' H).get b = some k → ∃ k0, (denHr ν ρ H).get b = some k0 ∧ k.rw = k0.rw ∧ ∀ φ w L, BRel φ w L k0 → BRel φ w L k := by
    intro b k hk
    rw [denHr_get, Option.bind_eq_some_iff] at hk
    obtain ⟨s, hs, hk⟩ := hk
    have : ∃ k0, denB ρ (ν b) s = some k0 := by
      cases s with
      | vars => exact ⟨_, rfl⟩
      | ro => exact ⟨_, rfl⟩
      | loop => exact ⟨_, rfl⟩
      | _ => exact ⟨k, hk⟩
    obtain ⟨k0, h0⟩ := this
    obtain ⟨k1, h1, h2, h3⟩ := denB_rel hρ h h0
    rw [hk] at h1
    cases h1
    exact ⟨k0, by rw [denHr_get, hs]; exact h0, h2, h3⟩
  refine ⟨fun b k hb => ?_, fun b c k k' L L' hb hc hne hkr hL hL' => ?_, fun b k L hb hkr hL => ?_, g.kin, g.fz, fun b k L c M hb hkr hL hM => ?_⟩
  · obtain ⟨k0, h1, h2, h3⟩ := back b k hb
    obtain ⟨L, hL, hB⟩ := g.rel b k0 h1
    exact ⟨L, hL, h3 _ _ _ hB⟩
  · obtain ⟨k0, h1, h2, _⟩ := back b k hb
    obtain ⟨k1, h3, _⟩ := back c k' hc
    exact g.sep b c k0 k1 L L' h1 h3 hne (by rw [← h2]; exact hkr) hL hL'
  · obtain ⟨k0, h1, h2, _⟩ := back b k hb
    exact g.prot b k0 L h1 (by rw [← h2]; exact hkr) hL
  · obtain ⟨k0, h1, h2, _⟩ := back b k hb
    exact g.fsep b k0 L c M h1 (by rw [← h2]; exact hkr) hL hM

theorem opOk_weak {r : Option Nat} {o : Oper} {tm : List Value} {H H' H2 : Hp} {nx nx' : Nat} {v v2 : Value} (h : OpOk P r o tm H nx v H' nx') (hv : ∀ φ v', VRel φ v v' → VRel φ v2 v') (hH : ∀ φ K w, Good φ H' K w → Good φ H2 K w) : OpOk P r o tm H nx v2 H2 nx' :=
  ⟨h.1, fun φ w K a rc next Q g hf ht hr hk => h.2 φ w K a rc next Q g hf ht hr fun v' φ' w' x1 x2 x3 x4 => hk v' φ' w' (hv _ _ x1) x2 (hH _ _ _ x3) x4⟩
theorem fresh_ext {φ φ1 : Ren} {lo mid hi : Nat} (hf : Fresh φ lo hi) (he : ∀ n, Ext K φ φ1 n n) : Fresh φ1 lo hi := ⟨hf.1, fun b h3 h4 => by rw [(he b).2.1 b (Nat.lt_of_lt_of_le h4 hf.1) (.inr (Nat.le_refl _))]; exact hf.2 b h3 h4⟩
theorem opOk_ghost {r : Option Nat} {o : Oper} {tm : List Value} {H H1 : SH} {H' : Hp} {nx nx' : Nat} {v : Value} {ν : Nat → Bool} (hg : Ghost H H1) (h : OpOk P r o tm (denH ν H1) nx v H' nx') : OpOk P r o tm (denH ν H) nx v H' nx' :=
  ⟨h.1, fun φ w K a rc next Q g hf ht hr hk => by
    obtain ⟨φ1, e1, g1⟩ := hg.2 ν φ K w g
    have hle := (e1 0).1
    refine h.2 φ1 w K a rc next Q g1 (fresh_ext (mid := 0) hf e1) (ht.mono hle) (hr.mono hle) fun v' φ' w' x1 x2 x3 x4 => hk v' φ' w' x1 ?_ x3 x4
    exact ((e1 nx).trans x2 (Nat.le_refl _) h.1)⟩

/-- What an operation comes to. -/
def SOp (P : Program) (rd : Option Nat) (o : Oper) (tm : List SV) (H : SH) (nx : Nat) (v : SV) (H' : SH) (nx' : Nat) : Prop :=
  RegLe H H' ∧ LKeep H H' ∧ nx ≤ nx' ∧ ∀ ν, VN ν nx H → VN ν nx' H' ∧ OpOk P rd o (denL (rho ν H) tm) (denH ν H) nx (den (rho ν H') v) (denH ν H') nx'

theorem VN.later {ν : Nat → Bool} {nx nx' : Nat} {H : SH} (h : VN ν nx H) (hn : nx ≤ nx') : VN ν nx' H := ⟨h.empty, fun b hb => h.old b (by omega), h.nn⟩
theorem sop_same {rd : Option Nat} {o : Oper} {tm : List SV} {H : SH} {nx nx' : Nat} {v : SV} (hn : nx ≤ nx') (h : ∀ ν, doOp P (denL (rho ν H) tm) (denH ν H) nx o = some (den (rho ν H) v, denH ν H, nx')) : SOp P rd o tm H nx v H nx' :=
  ⟨RegLe.refl H, LKeep.refl H, hn, fun ν hv => ⟨hv.later hn, opOk_plain (h ν)⟩⟩

/-! ### Blocks of variables -/
theorem reg_vars (cs : List SV) : reg (some (.vars cs)) = none := rfl
theorem sset_vars_reg {H : SH} {b : Nat} {cs ds : List SV} (hb : sget H b = some (.vars cs)) (c : Nat) : reg (sget (sset H b (.vars ds)) c) = reg (sget H c) := by
  rw [sget_set]
  by_cases h : c = b
  · subst h; simp [hb, reg]
  · rw [if_neg h]
theorem rho_congr {H H' : SH} (h : ∀ c, reg (sget H' c) = reg (sget H c)) (ν : Nat → Bool) : rho ν H' = rho ν H := by
  funext c; unfold rho; rw [h c]
theorem vn_congr {H H' : SH} (h : ∀ c, reg (sget H' c) = reg (sget H c)) (h2 : ∀ c, notNil (sget H' c) = true → notNil (sget H c) = true) {ν : Nat → Bool} {nx : Nat} (v : VN ν nx H) : VN ν nx H' := ⟨fun b n hr => v.empty b n (by rw [← h b]; exact hr), v.old, fun b hb => v.nn b (h2 b hb)⟩
theorem sset_vars_nn {H : SH} {b : Nat} {cs ds : List SV} (hb : sget H b = some (.vars cs)) (c : Nat) (h : notNil (sget (sset H b (.vars ds)) c) = true) : notNil (sget H c) = true := by
  rw [sget_set] at h
  by_cases hc : c = b
  · subst hc; simp [hb, notNil] at h
  · rwa [if_neg hc] at h
theorem lkeep_set {H : SH} {b : Nat} {k k' : SB} (hb : sget H b = some k) (hk : ∀ L, k ≠ .loop L) : LKeep H (sset H b k') := fun l L hl => by
  refine ⟨L.st, L.pend, ?_⟩
  rw [sget_set, if_neg]
  · exact hl
  · rintro rfl
    rw [hl] at hb; cases hb; exact hk L rfl
/-- A heap with a block put. -/
theorem good_set {ν : Nat → Bool} {H : SH} {b : Nat} {cs ds : List SV} (hb : sget H b = some (.vars cs)) {Hd : Hp} (hd : Hd = (denH ν H).set b (.cells (denL (rho ν H) ds) false)) (g : Good φ Hd K w) : Good φ (denH ν (sset H b (.vars ds))) K w := by
  refine g.sub fun c k hc => ?_
  rw [denH_get, sget_set, rho_congr (sset_vars_reg hb)] at hc
  rw [hd, Hp.get_set]
  by_cases h : c = b
  · subst h
    simp [hb, denB] at hc
    rw [if_pos rfl, denH_get, hb]
    simp [denB, hc]
  · rw [if_neg h] at hc ⊢
    rw [denH_get]; exact hc

/-- The cells of a value. -/
def scells : SV → List SV
  | .agg cs => cs
  | v => [v]
def flatS : SV → Bool
  | .tup _ => false
  | _ => true
theorem rho_one (ν : Nat → Bool) (H : SH) (b : Nat) : (rho ν H b).cells = #[rho ν H b] ∧ (rho ν H b).oneCell' = true ∧ flatV (rho ν H b) = true := by
  unfold rho
  split
  · exact ⟨rfl, rfl, rfl⟩
  · exact ⟨rfl, rfl, rfl⟩
  · exact ⟨rfl, rfl, rfl⟩
theorem scells_den {ν : Nat → Bool} {H : SH} {v : SV} (h : flatS v = true) : (den (rho ν H) v).cells.toList = denL (rho ν H) (scells v) ∧ flatV (den (rho ν H) v) = true := by
  cases v <;> simp [den, scells, denL, Value.cells, flatV, flatS, fzV, Fz.junk] at h ⊢
  obtain ⟨h1, _, h3⟩ := rho_one ν H ‹Nat›
  refine ⟨?_, h3⟩
  have := congrArg Array.toList h1
  simpa [Value.cells] using this
def oneS : List SV → Bool
  | [] => true
  | v :: r => (match v with | .agg _ => false | .tup _ => false | .junk => false | _ => true) && oneS r
theorem oneS_den {ν : Nat → Bool} {H : SH} : ∀ {cs : List SV}, oneS cs = true → oneL (denL (rho ν H) cs) = true
  | [], _ => rfl
  | v :: r, h => by
    simp only [oneS, Bool.and_eq_true] at h
    simp only [denL, oneL, Bool.and_eq_true]
    refine ⟨?_, oneS_den h.2⟩
    cases v <;> simp [den, Value.oneCell', fzV] at h ⊢
    exact (rho_one ν H _).2.1
def splS (cs : List SV) (o : Nat) (vs : List SV) : List SV := cs.take o ++ vs ++ cs.drop (o + vs.length)
theorem splS_den (ρ : Nat → Value) (cs : List SV) (o : Nat) (vs : List SV) : denL ρ (splS cs o vs) = spl (denL ρ cs) o (denL ρ vs) := by
  simp [splS, spl, denL_map]
def lenB {α : Type} : List α → Nat → Bool
  | [], n => Nat.beq n 0
  | _ :: r, n => match n with
    | 0 => false
    | m + 1 => lenB r m
theorem lenB_eq {α : Type} : ∀ {l : List α} {n : Nat}, lenB l n = true → l.length = n
  | [], n, h => (Nat.eq_of_beq_eq_true h).symm
  | _ :: r, 0, h => by cases h
  | _ :: r, m + 1, h => by simp [lenB_eq (l := r) h]
/-- A store into a block of variables. -/
def storeS (P : Program) (H : SH) (t : TypeId) (a x : SV) : Option SH := match a with
  | .ptr b o => match sget H b, infoF P t with
    | some (.vars cs), some i => match scells x with
      | xs => bif flatS x && (lenB xs i.size && (oneS xs && Nat.ble (o + i.size) cs.length)) then some (match xs with | [] => H | xs => sset H b (.vars (splS cs o xs))) else none
    | _, _ => none
  | _ => none
theorem storeS_ok {rd : Option Nat} {o : Oper} {tm : List SV} {H H' : SH} {nx : Nat} {t : TypeId} {ao xo : Operand} {a x : SV} (ho : o.op = .store t ao xo) (ha : sopv tm H ao = some a) (hx : sopv tm H xo = some x) (h : storeS P H t a x = some H') : SOp P rd o tm H nx (.tup []) H' nx := by
  unfold storeS at h
  split at h
  case h_2 => cases h
  rename_i b off
  split at h
  case h_2 => cases h
  rename_i cs i hb hi
  dsimp only at h
  obtain ⟨hc, h⟩ := cond_some h
  simp only [Bool.and_eq_true] at hc
  obtain ⟨h1, h2, h3, h4⟩ := hc
  have h2 := lenB_eq h2
  have h4 := Nat.le_of_ble_eq_true h4
  have hd : ∀ ν, (denH ν H).get b = some (.cells (denL (rho ν H) cs) false) := fun ν => by rw [denH_get, hb]; rfl
  have hcond : ∀ ν, (flatV (den (rho ν H) x) && (den (rho ν H) x).cells.toList.length == i.size && oneL (den (rho ν H) x).cells.toList && decide (off + (den (rho ν H) x).cells.toList.length ≤ (denL (rho ν H) cs).length)) = true := fun ν => by
    obtain ⟨e1, e2⟩ := scells_den (ν := ν) (H := H) h1
    rw [e1, e2, denL_length, denL_length, h2, oneS_den h3]
    simp [h4]
  cases hxs : scells x with
  | nil =>
    rw [hxs] at h
    cases h
    refine sop_same (Nat.le_refl _) fun ν => ?_
    unfold doOp
    have e0 := hcond ν
    have e1 := (scells_den (ν := ν) (H := H) h1).1
    rw [hxs] at e1
    simp only [ho, sopv_den ha ν, sopv_den hx ν, Option.bind_some]
    simp only [den, doStore, hd ν, hi]
    rw [if_pos e0]
    simp [e1, denL, undef]
  | cons y ys =>
    rw [hxs] at h
    cases h
    refine ⟨fun c z hz => by rw [sset_vars_reg hb]; exact hz, lkeep_set hb (fun L => by simp), Nat.le_refl _, fun ν hv => ⟨vn_congr (sset_vars_reg hb) (sset_vars_nn hb) hv, ?_⟩⟩
    have e0 := hcond ν
    have e1 := (scells_den (ν := ν) (H := H) h1).1
    have hop : doOp P (denL (rho ν H) tm) (denH ν H) nx o = some (undef, (denH ν H).set b (.cells (denL (rho ν H) (splS cs off (y :: ys))) false), nx) := by
      unfold doOp
      simp only [ho, sopv_den ha ν, sopv_den hx ν, Option.bind_some]
      simp only [den, doStore, hd ν, hi]
      rw [if_pos e0]
      rw [e1, hxs, splS_den]
      have : (denL (rho ν H) (y :: ys)).isEmpty = false := by simp [denL]
      simp [this]
    exact opOk_weak (opOk_plain hop) (fun φ v' hv => by simpa [den, denL, undef] using hv) (fun φ K w g => good_set hb rfl g)

/-- A new block. -/
def newS (H : SH) (nx : Nat) (k : SB) : Option SH := match sget H nx with
  | none => some ((nx, k) :: H)
  | some _ => none
theorem newS_some {H H' : SH} {nx : Nat} {k : SB} (h : newS H nx k = some H') : sget H nx = none ∧ H' = (nx, k) :: H := by
  unfold newS at h
  split at h
  · cases h; exact ⟨by assumption, rfl⟩
  · cases h
theorem new_reg {H : SH} {nx : Nat} {k : SB} (h : sget H nx = none) : RegLe H ((nx, k) :: H) := fun b x hx => by
  rw [sget_cons]
  by_cases hb : nx = b
  · subst hb; rw [h] at hx; cases hx
  · rw [if_neg hb]; exact hx
theorem new_lkeep {H : SH} {nx : Nat} {k : SB} (h : sget H nx = none) : LKeep H ((nx, k) :: H) := fun l L hl => by
  refine ⟨L.st, L.pend, ?_⟩
  rw [sget_cons]
  by_cases hb : nx = l
  · subst hb; rw [h] at hl; cases hl
  · rw [if_neg hb]; exact hl
theorem new_vn {H : SH} {nx : Nat} {k : SB} {ν : Nat → Bool} (h : VN ν nx H) : VN ν (nx + 1) ((nx, k) :: H) := ⟨fun b n hr => reg_zero hr, fun b hb => h.old b (by omega), fun b hb => by
  rw [sget_cons] at hb
  by_cases hbn : nx = b
  · subst hbn; exact h.old nx (Nat.le_refl _)
  · rw [if_neg hbn] at hb; exact h.nn b hb⟩
/-- The heap with a new block. -/
theorem good_newS {ν : Nat → Bool} {H : SH} {nx : Nat} {k : SB} {x : Blk} (hn : sget H nx = none) (hx : denB (rho ν ((nx, k) :: H)) (ν nx) k = some x) (g : Good φ ((nx, x) :: denH ν H) K w) : Good φ (denH ν ((nx, k) :: H)) K w := by
  have h1 : RLe (rho ν H) (rho ν ((nx, k) :: H)) := rho_le ν (new_reg hn)
  have hget : ∀ b, (denH ν ((nx, k) :: H)).get b = if b = nx then some x else (denHr ν (rho ν ((nx, k) :: H)) H).get b := by
    intro b
    rw [denH_get, sget_cons, denHr_get]
    by_cases hb : nx = b
    · subst hb; simp [hx]
    · have : ¬ b = nx := fun e => hb e.symm
      simp [hb, this]
  have back : ∀ b k', (denH ν ((nx, k) :: H)).get b = some k' → b ≠ nx → ∃ k0, (denH ν H).get b = some k0 ∧ k'.rw = k0.rw ∧ ∀ φ w L, BRel φ w L k0 → BRel φ w L k' := by
    intro b k' hb hne
    rw [hget, if_neg hne, denHr_get, Option.bind_eq_some_iff] at hb
    obtain ⟨s, hs, hk⟩ := hb
    have : ∃ k0, denB (rho ν H) (ν b) s = some k0 := by
      cases s with
      | vars => exact ⟨_, rfl⟩
      | ro => exact ⟨_, rfl⟩
      | loop => exact ⟨_, rfl⟩
      | _ => exact ⟨k', hk⟩
    obtain ⟨k0, h0⟩ := this
    obtain ⟨k1, e1, e2, e3⟩ := denB_rel (rho_junk ν H) h1 h0
    rw [hk] at e1; cases e1
    exact ⟨k0, by rw [denH_get, hs]; exact h0, e2, e3⟩
  have at_nx : ∀ k', (denH ν ((nx, k) :: H)).get nx = some k' → k' = x := fun k' hk => by
    rw [hget, if_pos rfl] at hk; exact (Option.some.inj hk).symm
  have gnx : Hp.get ((nx, x) :: denH ν H) nx = some x := by simp [Hp.get_cons]
  have goth : ∀ b k0, b ≠ nx → (denH ν H).get b = some k0 → Hp.get ((nx, x) :: denH ν H) b = some k0 := fun b k0 hb h0 => by
    have : (nx == b) = false := by simpa using fun e : nx = b => hb e.symm
    simp [Hp.get_cons, this, h0]
  have all : ∀ b k', (denH ν ((nx, k) :: H)).get b = some k' → ∃ k0, Hp.get ((nx, x) :: denH ν H) b = some k0 ∧ k'.rw = k0.rw ∧ ∀ φ w L, BRel φ w L k0 → BRel φ w L k' := by
    intro b k' hb
    by_cases hbn : b = nx
    · subst hbn
      have := at_nx k' hb
      subst this
      exact ⟨k', gnx, rfl, fun _ _ _ h => h⟩
    · obtain ⟨k0, e1, e2, e3⟩ := back b k' hb hbn
      exact ⟨k0, goth b k0 hbn e1, e2, e3⟩
  refine ⟨fun b k' hb => ?_, fun b c k1 k2 L L' hb hc hne hkr hL hL' => ?_, fun b k1 L hb hkr hL => ?_, g.kin, g.fz, fun b k1 L c M hb hkr hL hM => ?_⟩
  · obtain ⟨k0, e1, _, e3⟩ := all b k' hb
    obtain ⟨L, hL, hB⟩ := g.rel b k0 e1
    exact ⟨L, hL, e3 _ _ _ hB⟩
  · obtain ⟨k0, e1, e2, _⟩ := all b k1 hb
    obtain ⟨k3, e4, _⟩ := all c k2 hc
    exact g.sep b c k0 k3 L L' e1 e4 hne (by rw [← e2]; exact hkr) hL hL'
  · obtain ⟨k0, e1, e2, _⟩ := all b k1 hb
    exact g.prot b k0 L e1 (by rw [← e2]; exact hkr) hL
  · obtain ⟨k0, e1, e2, _⟩ := all b k1 hb
    exact g.fsep b k0 L c M e1 (by rw [← e2]; exact hkr) hL hM
theorem sop_newVars {rd : Option Nat} {o : Oper} {tm : List SV} {H : SH} {nx : Nat} {cs : List SV} (hn : sget H nx = none)
    (h : ∀ ν, doOp P (denL (rho ν H) tm) (denH ν H) nx o = some (.pointer (some ⟨nx, 0, none⟩), (nx, .cells (denL (rho ν H) cs) false) :: denH ν H, nx + 1)) : SOp P rd o tm H nx (.ptr nx 0) ((nx, .vars cs) :: H) (nx + 1) := by
  refine ⟨new_reg hn, new_lkeep hn, Nat.le_succ _, fun ν hv => ⟨new_vn hv, opOk_weak (opOk_plain (h ν)) (fun φ v' hv => by simpa [den] using hv) (fun φ K w g => ?_)⟩⟩
  have hr : rho ν ((nx, .vars cs) :: H) = rho ν H := rho_congr (fun c => by
    rw [sget_cons]
    by_cases hc : nx = c
    · subst hc; simp [hn, reg]
    · rw [if_neg hc]) ν
  refine good_newS hn (x := .cells (denL (rho ν H) cs) false) ?_ g
  simp [denB, hr]
end Go.Fz.Sy
/- The symbolic engine, part F: operations without a decision, all of them. -/
noncomputable section
namespace Go.Fz.Sy
set_option linter.unusedVariables false
set_option linter.unusedSimpArgs false
variable {P : Program}

/-! ### Structs built -/
theorem foldl_spl : ∀ (xs : List Value) (k off : Nat) (cs : Array Value), off + k + xs.length ≤ cs.size →
    ((xs.zipIdx k).foldl (fun (cs : Array Value) (p : Value × Nat) => cs.setIfInBounds (off + p.2) p.1) cs).toList = spl cs.toList (off + k) xs
  | [], k, off, cs, h => by simp [spl]
  | x :: xs, k, off, cs, h => by
    simp only [List.length_cons] at h
    simp only [List.zipIdx_cons, List.foldl_cons]
    rw [foldl_spl xs (k + 1) off _ (by simp; omega)]
    apply List.ext_getElem?
    intro j
    rw [spl_get _ _ _ (by simp; omega), spl_get _ _ _ (by simp; omega)]
    simp only [Array.toList_setIfInBounds, List.getElem?_set, List.length_cons, Array.length_toList]
    by_cases h1 : j < off + k
    · have h2 : j < off + (k + 1) := by omega
      have h3 : ¬ off + k = j := by omega
      simp only [h1, h2, h3, if_true, if_false]
    · by_cases h4 : j = off + k
      · subst h4
        have h2 : off + k < off + (k + 1) := by omega
        have h5 : off + k < off + k + (xs.length + 1) := by omega
        have h6 : off + k < cs.size := by omega
        simp only [h1, h2, h5, h6, if_true, if_false, Nat.sub_self, List.getElem?_cons_zero]
      · have h2 : ¬ j < off + (k + 1) := by omega
        simp only [h1, h2, if_false]
        by_cases h7 : j < off + (k + 1) + xs.length
        · have h8 : j < off + k + (xs.length + 1) := by omega
          simp only [h7, h8, if_true]
          have : j - (off + k) = (j - (off + (k + 1))) + 1 := by omega
          rw [this, List.getElem?_cons_succ]
        · have h8 : ¬ j < off + k + (xs.length + 1) := by omega
          have h3 : ¬ off + k = j := by omega
          simp only [h7, h8, h3, if_false]
def fillS (place : Nat → Option (Nat × Nat)) (cs : List SV) : List (Nat × SV) → Option (List SV)
  | [] => some cs
  | (i, v) :: r => match place i with
    | some (off, size) => match scells v with
      | xs => bif flatS v && (lenB xs size && Nat.ble (off + size) cs.length) then fillS place (splS cs off xs) r else none
    | none => none
theorem fillS_den {ν : Nat → Bool} {H : SH} (place : Nat → Option (Nat × Nat)) : ∀ {ps : List (Nat × SV)} {cs out : List SV}, fillS place cs ps = some out →
    Instr.fill place (denL (rho ν H) cs).toArray (ps.map fun p => (p.1, den (rho ν H) p.2)) = some (denL (rho ν H) out).toArray ∧ flatP (ps.map fun p => (p.1, den (rho ν H) p.2)) = true
  | [], cs, out, h => by simp only [fillS, Option.some.injEq] at h; subst h; exact ⟨rfl, rfl⟩
  | (i, v) :: r, cs, out, h => by
    simp only [fillS] at h
    split at h
    case h_2 => cases h
    rename_i off size hp
    obtain ⟨hc, h2⟩ := cond_some h
    simp only [Bool.and_eq_true] at hc
    obtain ⟨h3, h4, h5⟩ := hc
    have h4 := lenB_eq h4
    have h5 := Nat.le_of_ble_eq_true h5
    obtain ⟨e1, e2⟩ := scells_den (ν := ν) (H := H) h3
    obtain ⟨f1, f2⟩ := fillS_den (ν := ν) (H := H) place h2
    have hsz : (den (rho ν H) v).cells.size = size := by
      have := congrArg List.length e1
      rw [denL_length, h4] at this
      simpa using this
    refine ⟨?_, by simp only [List.map_cons, flatP, e2, f2, Bool.and_self]⟩
    simp only [List.map_cons, Instr.fill, hp]
    rw [if_neg]
    · rw [← f1]
      congr 1
      apply Array.ext'
      rw [← Array.foldl_toList, Array.toList_zipIdx]
      have := foldl_spl (den (rho ν H) v).cells.toList 0 off (denL (rho ν H) cs).toArray (by simp [hsz, denL_length]; omega)
      rw [this, splS_den, e1]
      rfl
    · simp [hsz, denL_length]; omega
def buildS (P : Program) (t : TypeId) (ps : List (Nat × SV)) : Option SV := match infoF P t with
  | some i => match i.zero with
    | some z => match ofC z with
      | some (.agg zs) => match undF P t with
        | some (.struct fields) => match fplaces P fields with
          | some places => (fillS (fun i => places[i]?) zs ps).map .agg
          | none => none
        | some (.array _ e) => match infoF P e with
          | some ie => (fillS (fun i => some (i * ie.size, ie.size)) zs ps).map .agg
          | none => none
        | _ => none
      | _ => none
    | none => none
  | none => none
theorem buildS_den {ν : Nat → Bool} {H : SH} {t : TypeId} {ps : List (Nat × SV)} {v : SV} (h : buildS P t ps = some v) : doBuild P t (ps.map fun p => (p.1, den (rho ν H) p.2)) = some (den (rho ν H) v) := by
  unfold buildS at h
  split at h
  case h_2 => cases h
  rename_i i hi
  split at h
  case h_2 => cases h
  rename_i z hz
  split at h
  case h_2 => cases h
  rename_i zs hzs
  obtain ⟨e1, e2⟩ := ofC_den (ρ := rho ν H) hzs
  simp only [den] at e1
  have e3 : z.cells = (denL (rho ν H) zs).toArray := by rw [← e1]; rfl
  have e4 : avL (denL (rho ν H) zs) = true := by
    rw [← e1] at e2
    simpa [av] using e2
  unfold doBuild
  split at h
  · rename_i fields hu
    split at h
    case h_2 => cases h
    rename_i places hp
    simp only [Option.map_eq_some_iff] at h
    obtain ⟨out, ho, rfl⟩ := h
    obtain ⟨f1, f2⟩ := fillS_den (ν := ν) (H := H) _ ho
    simp only [hi, hz, e3, e4, f2, Bool.and_self, if_true, hu, hp]
    rw [f1]
    simp [den]
  · rename_i n e hu
    split at h
    case h_2 => cases h
    rename_i ie hie
    simp only [Option.map_eq_some_iff] at h
    obtain ⟨out, ho, rfl⟩ := h
    obtain ⟨f1, f2⟩ := fillS_den (ν := ν) (H := H) _ ho
    simp only [hi, hz, e3, e4, f2, Bool.and_self, if_true, hu, hie]
    rw [f1]
    simp [den]
  · cases h

/-! ### len, min, max -/
def lenS (P : Program) (H : SH) (t : TypeId) (v : SV) : Option SV := match undF P t with
  | some (.slice _) => match v with
    | .lst ty l _ => some (.int .i64 l.length)
    | .nils => some (.int .i64 0)
    | _ => none
  | some .string => match v with
    | .str s => some (.int .i64 s.size)
    | _ => none
  | _ => none
theorem lenS_den {ν : Nat → Bool} {H : SH} {t : TypeId} {x v : SV} (h : lenS P H t x = some v) : doLen P t (den (rho ν H) x) = some (den (rho ν H) v) := by
  unfold lenS at h
  split at h
  · rename_i e hu
    split at h
    · rename_i ty l full
      cases h
      cases full <;> simp [den, doLen, fzV, fzEls, hu, goInt]
    · cases h
      simp [den, doLen, hu, goInt]
    · cases h
  · rename_i hu
    split at h
    · rename_i s
      cases h
      rw [undF_eq] at hu
      have : plain P (Builtin.len_ #[t] 0 #[.string s]) = some (goInt s.size) := by
        unfold Builtin.len_
        show plain P ((underlying t).bind _) = _
        rw [plain_bind, plain_underlying hu, Option.bind_some]
        rfl
      simp [den, doLen, fzEls, av, av1, sc, this, goInt]
    · cases h
  · cases h
def minI (x y : Int) : Int := bif iltF y x then y else x
def maxI (x y : Int) : Int := bif iltF x y then y else x
def minL (k : IntKind) (x : Int) : List SV → Option Int
  | [] => some x
  | .int k' y :: r => bif keqF k k' then minL k (minI x y) r else none
  | _ => none
def maxL (k : IntKind) (x : Int) : List SV → Option Int
  | [] => some x
  | .int k' y :: r => bif keqF k k' then maxL k (maxI x y) r else none
  | _ => none
theorem min2_run (k k' : IntKind) (x y : Int) : Builtin.min2 (.int k x) (.int k' y) = pure (.int k (minI x y)) := by
  simp only [Builtin.min2, minI, iltF_eq]
  by_cases h : y < x <;> simp [h]
theorem max2_run (k k' : IntKind) (x y : Int) : Builtin.max2 (.int k x) (.int k' y) = pure (.int k (maxI x y)) := by
  simp only [Builtin.max2, maxI, iltF_eq]
  by_cases h : x < y <;> simp [h]
theorem minL_run {ρ : Nat → Value} {k : IntKind} : ∀ {r : List SV} {x z : Int}, minL k x r = some z → plain P ((denL ρ r).foldlM Builtin.min2 (.int k x)) = some (.int k z) ∧ avL (denL ρ r) = true
  | [], x, z, h => by simp only [minL, Option.some.injEq] at h; subst h; exact ⟨rfl, rfl⟩
  | .int k' y :: r, x, z, h => by
    simp only [minL] at h
    obtain ⟨h1, h2⟩ := cond_some h
    obtain ⟨e1, e2⟩ := minL_run (ρ := ρ) h2
    refine ⟨?_, by simp [denL, den, avL, av1, e2]⟩
    simp only [denL, den, List.foldlM_cons, min2_run]
    exact e1
  | .bool _ :: _, _, _, h => by simp [minL] at h
  | .str _ :: _, _, _, h => by simp [minL] at h
  | .agg _ :: _, _, _, h => by simp [minL] at h
  | .tup _ :: _, _, _, h => by simp [minL] at h
  | .ptr _ _ :: _, _, _, h => by simp [minL] at h
  | .nilp :: _, _, _, h => by simp [minL] at h
  | .lst _ _ _ :: _, _, _, h => by simp [minL] at h
  | .own _ :: _, _, _, h => by simp [minL] at h
  | .nils :: _, _, _, h => by simp [minL] at h
  | .elp _ _ _ _ :: _, _, _, h => by simp [minL] at h
  | .fel _ _ _ :: _, _, _, h => by simp [minL] at h
  | .fn _ _ _ :: _, _, _, h => by simp [minL] at h
  | .yld _ :: _, _, _, h => by simp [minL] at h
  | .nilf :: _, _, _, h => by simp [minL] at h
  | .mp _ :: _, _, _, h => by simp [minL] at h
  | .junk :: _, _, _, h => by simp [minL] at h
theorem maxL_run {ρ : Nat → Value} {k : IntKind} : ∀ {r : List SV} {x z : Int}, maxL k x r = some z → plain P ((denL ρ r).foldlM Builtin.max2 (.int k x)) = some (.int k z) ∧ avL (denL ρ r) = true
  | [], x, z, h => by simp only [maxL, Option.some.injEq] at h; subst h; exact ⟨rfl, rfl⟩
  | .int k' y :: r, x, z, h => by
    simp only [maxL] at h
    obtain ⟨h1, h2⟩ := cond_some h
    obtain ⟨e1, e2⟩ := maxL_run (ρ := ρ) h2
    refine ⟨?_, by simp [denL, den, avL, av1, e2]⟩
    simp only [denL, den, List.foldlM_cons, max2_run]
    exact e1
  | .bool _ :: _, _, _, h => by simp [maxL] at h
  | .str _ :: _, _, _, h => by simp [maxL] at h
  | .agg _ :: _, _, _, h => by simp [maxL] at h
  | .tup _ :: _, _, _, h => by simp [maxL] at h
  | .ptr _ _ :: _, _, _, h => by simp [maxL] at h
  | .nilp :: _, _, _, h => by simp [maxL] at h
  | .lst _ _ _ :: _, _, _, h => by simp [maxL] at h
  | .own _ :: _, _, _, h => by simp [maxL] at h
  | .nils :: _, _, _, h => by simp [maxL] at h
  | .elp _ _ _ _ :: _, _, _, h => by simp [maxL] at h
  | .fel _ _ _ :: _, _, _, h => by simp [maxL] at h
  | .fn _ _ _ :: _, _, _, h => by simp [maxL] at h
  | .yld _ :: _, _, _, h => by simp [maxL] at h
  | .nilf :: _, _, _, h => by simp [maxL] at h
  | .mp _ :: _, _, _, h => by simp [maxL] at h
  | .junk :: _, _, _, h => by simp [maxL] at h
def builtin0 (P : Program) (H : SH) (b : Builtin) (ts : List TypeId) (vs : List SV) : Option SV := match b, ts, vs with
  | .len, [t], [x] => lenS P H t x
  | .min, _, .int k x :: r => (minL k x r).map (.int k)
  | .max, _, .int k x :: r => (maxL k x r).map (.int k)
  | _, _, _ => none
theorem sc_of {s : Sem Value} {v : Value} (h : plain P s = some v) (hv : av v = true) : sc P s = some v := by unfold sc; rw [h]; simp [hv]

/-! ### All -/
def sext (n : Nat) : SV → Option SV
  | .tup vs => gl vs n
  | _ => none
def sop0 (P : Program) (tm : List SV) (H : SH) (nx : Nat) (o : Oper) : Option (SV × SH × Nat) :=
  let un (v : Option SV) : Option (SV × SH × Nat) := match v with
    | some v => some (v, H, nx)
    | none => none
  let new (v : SV) : Option (SV × SH × Nat) := bif flatS v then match newS H nx (.vars (scells v)) with
    | some H' => some (.ptr nx 0, H', nx + 1)
    | none => none
    else none
  match o.op with
  | .move x => un (sopv tm H x)
  | .assign x => un (sopv tm H x)
  | .alloc t => match infoF P t with
    | some i => match i.zero with
      | some z => match ofC z with
        | some v => new v
        | none => none
      | none => none
    | none => none
  | .box t x => match sopv tm H x with
    | some v => new v
    | none => none
  | .build t ps => match sparts tm H ps.toList with
    | some vs => un (buildS P t vs)
    | none => none
  | .load t a => match sopv tm H a with
    | some v => un (loadS P H t v)
    | none => none
  | .store t a x => match sopv tm H a, sopv tm H x with
    | some va, some vx => match storeS P H t va vx with
      | some H' => some (.tup [], H', nx)
      | none => none
    | _, _ => none
  | .nilCheck x => match sopv tm H x with
    | some (.ptr b o) => some (.ptr b o, H, nx)
    | some (.fn f a b) => some (.fn f a b, H, nx)
    | some (.yld l) => some (.yld l, H, nx)
    | _ => none
  | .binOp op t x y _ => match sopv tm H x, sopv tm H y with
    | some a, some b => un (binS P op t x y a b)
    | _, _ => none
  | .unOp op _ x => match sopv tm H x with
    | some a => un (unS P op a)
    | none => none
  | .convert s d x => match sopv tm H x with
    | some a => un (convS P s d a)
    | none => none
  | .makeFunc (.func f) fs cs => match sopvs tm H fs.toList, sopvs tm H cs.toList with
    | some a, some b => some (.fn f a b, H, nx)
    | _, _ => none
  | .fieldAddr s x f => match sopv tm H x with
    | some v => un (fieldAddrS P s f v)
    | none => none
  | .field t x f => match sopv tm H x with
    | some v => un (fieldS P t f v)
    | none => none
  | .extract x n => match sopv tm H x with
    | some v => un (sext n v)
    | none => none
  | .call { callee := .builtin b, args, argTypes } => match sopvs tm H args.toList with
    | some vs => match builtin0 P H b argTypes.toList vs with
      | some v => some (v, H, nx + 1)
      | none => none
    | none => none
  | _ => none
theorem new_ok {rd : Option Nat} {o : Oper} {tm : List SV} {H H' : SH} {nx nx' : Nat} {x v : SV} (h : (bif flatS x then match newS H nx (.vars (scells x)) with
    | some H' => some (SV.ptr nx 0, H', nx + 1)
    | none => none
    else none) = some (v, H', nx')) (hop : ∀ ν, doOp P (denL (rho ν H) tm) (denH ν H) nx o = doNew (denH ν H) nx (den (rho ν H) x)) : SOp P rd o tm H nx v H' nx' := by
  obtain ⟨h1, h2⟩ := cond_some h
  split at h2
  case h_2 => cases h2
  rename_i H2 hn
  cases h2
  obtain ⟨e1, rfl⟩ := newS_some hn
  refine sop_newVars e1 fun ν => ?_
  obtain ⟨e2, e3⟩ := scells_den (ν := ν) (H := H) h1
  rw [hop ν]
  unfold doNew
  simp [e3, e2]
theorem un_ok {rd : Option Nat} {o : Oper} {tm : List SV} {H H' : SH} {nx nx' : Nat} {x : Option SV} {v : SV} (h : (match x with
    | some v => some (v, H, nx)
    | none => none) = some (v, H', nx')) (hop : ∀ y, x = some y → ∀ ν, doOp P (denL (rho ν H) tm) (denH ν H) nx o = some (den (rho ν H) y, denH ν H, nx)) : SOp P rd o tm H nx v H' nx' := by
  split at h
  · rename_i y
    cases h
    exact sop_same (Nat.le_refl _) fun ν => hop _ rfl ν
  · cases h
theorem opOk_run {r : Option Nat} {o : Oper} {tm : List Value} {H H' : Hp} {nx nx' : Nat} {v : Value} (hle : nx ≤ nx') (hnd : ∀ c, o.op ≠ .defer c)
    (h : ∀ (φ : Ren) (w : World) (K : Nat → Prop) (a : Act), Good φ H K w → Fresh φ nx nx' → TRel φ tm a.tmps → OpRan P φ K w nx (execOp a.eval o) v H' nx') : OpOk P r o tm H nx v H' nx' := by
  refine ⟨hle, fun φ w K a rc next Q g hf ht hr hk => ⟨about_fw, ?_⟩⟩
  obtain ⟨nxt, w', φ', v', h1, h2, h3, h4, h5, h6, h7⟩ := h φ w K a g hf ht
  rw [Oper.semAt_eq _ _ _ hnd, h1]
  rcases h2 with rfl | ⟨rfl, rfl⟩
  · exact hk v' φ' w' h3 h4 h5 h6
  · exact hk undef φ' w' h3 h4 h5 h6
theorem sop0_ok {rd : Option Nat} {o : Oper} {tm : List SV} {H H' : SH} {nx nx' : Nat} {v : SV} (h : sop0 P tm H nx o = some (v, H', nx')) : SOp P rd o tm H nx v H' nx' := by
  unfold sop0 at h
  dsimp only at h
  split at h
  · rename_i x ho
    refine un_ok h fun y hy ν => ?_
    unfold doOp; simp only [ho, sopv_den hy ν]; rfl
  · rename_i x ho
    refine un_ok h fun y hy ν => ?_
    unfold doOp; simp only [ho, sopv_den hy ν]; rfl
  · rename_i t ho
    split at h
    case h_2 => cases h
    rename_i i hi
    split at h
    case h_2 => cases h
    rename_i z hz
    split at h
    case h_2 => cases h
    rename_i x hx
    refine new_ok h fun ν => ?_
    obtain ⟨e1, e2⟩ := ofC_den (ρ := rho ν H) hx
    unfold doOp; simp only [ho, hi, hz, e2, if_true, e1]
  · rename_i t xo ho
    split at h
    case h_2 => cases h
    rename_i x hx
    refine new_ok h fun ν => ?_
    unfold doOp; simp only [ho, sopv_den hx ν, Option.bind_some]
  · rename_i t ps ho
    split at h
    case h_2 => cases h
    rename_i vs hvs
    refine un_ok h fun y hy ν => ?_
    unfold doOp; simp only [ho, sparts_den ν hvs, Option.bind_some, buildS_den (ν := ν) (H := H) hy]; rfl
  · rename_i t a ho
    split at h
    case h_2 => cases h
    rename_i x hx
    refine un_ok h fun y hy ν => ?_
    unfold doOp; simp only [ho, sopv_den hx ν, Option.bind_some]; exact congrArg (un1 (denH ν H) nx) (loadS_den (ν := ν) hy)
  · rename_i t a x ho
    split at h
    case h_2 => cases h
    rename_i va vx ha hx
    split at h
    case h_2 => cases h
    rename_i H2 hs
    cases h
    exact storeS_ok ho ha hx hs
  · rename_i x ho
    split at h
    · rename_i b off hx
      cases h
      refine sop_same (Nat.le_refl _) fun ν => ?_
      unfold doOp; simp only [ho, sopv_den hx ν, den]
    · rename_i f a b hx
      cases h
      refine sop_same (Nat.le_refl _) fun ν => ?_
      unfold doOp; simp only [ho, sopv_den hx ν, den]
    · rename_i l hx
      cases h
      refine sop_same (Nat.le_refl _) fun ν => ?_
      unfold doOp; simp only [ho, sopv_den hx ν, den]
    · cases h
  · rename_i op t x y u ho
    split at h
    case h_2 => cases h
    rename_i a b ha hb
    refine un_ok h fun z hz ν => ?_
    unfold doOp; simp only [ho, sopv_den ha ν, sopv_den hb ν, Option.bind_some, binS_den (ρ := rho ν H) hz]; rfl
  · rename_i op t x ho
    split at h
    case h_2 => cases h
    rename_i a ha
    refine un_ok h fun z hz ν => ?_
    unfold doOp; simp only [ho, sopv_den ha ν, Option.bind_some, unS_den (ρ := rho ν H) hz]; rfl
  · rename_i s d x ho
    split at h
    case h_2 => cases h
    rename_i a ha
    refine un_ok h fun z hz ν => ?_
    unfold doOp; simp only [ho, sopv_den ha ν, Option.bind_some, convS_den (ρ := rho ν H) hz]; rfl
  · rename_i f fs cs ho
    split at h
    case h_2 => cases h
    rename_i a b ha hb
    cases h
    refine sop_same (Nat.le_refl _) fun ν => ?_
    unfold doOp; simp only [ho, sopvs_den ν ha, sopvs_den ν hb, Option.bind_some, den]
  · rename_i s x f ho
    split at h
    case h_2 => cases h
    rename_i a ha
    refine un_ok h fun z hz ν => ?_
    unfold doOp; simp only [ho, sopv_den ha ν, Option.bind_some]; exact congrArg (un1 (denH ν H) nx) (fieldAddrS_den (ρ := rho ν H) hz)
  · rename_i t x f ho
    split at h
    case h_2 => cases h
    rename_i a ha
    refine un_ok h fun z hz ν => ?_
    unfold doOp; simp only [ho, sopv_den ha ν, Option.bind_some, fieldS_den (ρ := rho ν H) hz]; rfl
  · rename_i x n ho
    split at h
    case h_2 => cases h
    rename_i a ha
    refine un_ok h fun z hz ν => ?_
    have : doExtract n (den (rho ν H) a) = some (den (rho ν H) z) := by
      unfold sext at hz
      split at hz
      · rename_i vs
        rw [gl_eq] at hz
        simp [den, doExtract, denL_get, hz]
      · cases hz
    unfold doOp; simp only [ho, sopv_den ha ν, Option.bind_some, this]; rfl
  · rename_i b args ats ho
    split at h
    case h_2 => cases h
    rename_i vs hvs
    split at h
    case h_2 => cases h
    rename_i y hb
    cases h
    have plainc : (∀ ν, doBuiltin P (denH ν H) nx b ats.toList o.type (denL (rho ν H) vs) = some (den (rho ν H) v, denH ν H, nx + 1)) → SOp P rd o tm H nx v H (nx + 1) := fun hd =>
      sop_same (Nat.le_succ _) fun ν => by
        unfold doOp; simp only [ho, sopvs_den ν hvs, Option.bind_some, hd ν]
    unfold builtin0 at hb
    split at hb
    · rename_i t x hats
      refine plainc fun ν => ?_
      simp only [hats, doBuiltin, denL, lenS_den (ν := ν) hb]; rfl
    · rename_i k x r
      simp only [Option.map_eq_some_iff] at hb
      obtain ⟨z, hz, rfl⟩ := hb
      refine plainc fun ν => ?_
      obtain ⟨e1, e2⟩ := minL_run (P := P) (ρ := rho ν H) hz
      have h3 : plain P (Builtin.min_ ats.toList.toArray o.type (denL (rho ν H) (.int k x :: r)).toArray) = some (.int k z) := by
        simp only [Builtin.min_, denL, den]
        exact e1
      have h4 : avL (denL (rho ν H) (.int k x :: r)) = true := by simp [denL, den, avL, av1, e2]
      simp only [doBuiltin, h4, if_true, sc_of h3 rfl, den]; rfl
    · rename_i k x r
      simp only [Option.map_eq_some_iff] at hb
      obtain ⟨z, hz, rfl⟩ := hb
      refine plainc fun ν => ?_
      obtain ⟨e1, e2⟩ := maxL_run (P := P) (ρ := rho ν H) hz
      have h3 : plain P (Builtin.max_ ats.toList.toArray o.type (denL (rho ν H) (.int k x :: r)).toArray) = some (.int k z) := by
        simp only [Builtin.max_, denL, den]
        exact e1
      have h4 : avL (denL (rho ν H) (.int k x :: r)) = true := by simp [denL, den, avL, av1, e2]
      simp only [doBuiltin, h4, if_true, sc_of h3 rfl, den]; rfl
    · cases hb
  · cases h
end Go.Fz.Sy
/- The symbolic engine, part G: arrays of ours in the world: given a new name, made, laid out, copied into. -/
noncomputable section
namespace Go.Fz.Sy
set_option linter.unusedVariables false
set_option linter.unusedSimpArgs false
variable {P : Program} {φ : Ren} {H : Hp} {K : Nat → Prop} {w : World}

/-- A block of ours under a new name. -/
theorem rename_ok (g : Good φ H K w) {nx b : Nat} (hfr : φ nx = none) (hzn : nx < FZ) {cs : List Value} (hb : H.get b = some (.cells cs false)) :
    ∃ φ', Ext K φ φ' nx (nx + 1) ∧ Good φ' ((nx, .cells cs false) :: H.del b) K w ∧ (∀ L, φ b = some L → φ' nx = some L) := by
  obtain ⟨L, hL, hB⟩ := g.rel b _ hb
  have hle := Ren.put_le hfr L
  have getd : ∀ d, Hp.get ((nx, Blk.cells cs false) :: H.del b) d = if d = nx then some (.cells cs false) else if d = b then none else H.get d := by
    intro d
    by_cases h : d = nx
    · subst h; simp [Hp.get_cons]
    · have : ¬ nx = d := fun e => h e.symm
      simp [Hp.get_cons, h, this, Hp.get_del]
  refine ⟨φ.put nx L, Ext.put hfr hzn _, ⟨fun d k hd => ?_, fun d d' k k' M M' hd hd' hne hk hM hM' => ?_, fun d k M hd hk hM => ?_, g.kin, fun d M hM => ?_, fun d k M e N hd hk hM hN => ?_⟩, fun L2 h2 => ?_⟩
  · rw [getd] at hd
    by_cases hdn : d = nx
    · subst hdn
      simp at hd
      subst hd
      exact ⟨L, Ren.put_same _ _ _, hB.mono hle⟩
    · simp [hdn] at hd
      obtain ⟨M, hM, hr⟩ := g.rel d k hd.2
      exact ⟨M, by rw [Ren.put_other _ _ hdn]; exact hM, hr.mono hle⟩
  · rw [getd] at hd hd'
    by_cases hdn : d = nx
    · subst hdn
      have hdn' : ¬ d' = d := fun e => hne e.symm
      simp [hdn'] at hd'
      rw [Ren.put_same] at hM; cases hM
      rw [Ren.put_other _ _ hdn'] at hM'
      exact g.sep b d' _ k' L M' hb hd'.2 (fun e => hd'.1 e.symm) rfl hL hM'
    · simp [hdn] at hd
      rw [Ren.put_other _ _ hdn] at hM
      by_cases hdn' : d' = nx
      · subst hdn'
        rw [Ren.put_same] at hM'; cases hM'
        exact g.sep d b k _ M L hd.2 hb hd.1 hk hM hL
      · simp [hdn'] at hd'
        rw [Ren.put_other _ _ hdn'] at hM'
        exact g.sep d d' k k' M M' hd.2 hd'.2 hne hk hM hM'
  · rw [getd] at hd
    by_cases hdn : d = nx
    · subst hdn
      rw [Ren.put_same] at hM; cases hM
      exact g.prot b _ L hb rfl hL
    · simp [hdn] at hd
      rw [Ren.put_other _ _ hdn] at hM
      exact g.prot d k M hd.2 hk hM
  · rw [Ren.put_other _ _ (by omega)] at hM
    exact g.fz d M hM
  · rw [Ren.put_other _ _ (by omega)] at hN
    rw [getd] at hd
    by_cases hdn : d = nx
    · subst hdn
      rw [Ren.put_same] at hM; cases hM
      exact g.fsep b _ L e N hb rfl hL hN
    · simp [hdn] at hd
      rw [Ren.put_other _ _ hdn] at hM
      exact g.fsep d k M e N hd.2 hk hM hN
  · rw [hL] at h2; cases h2; exact Ren.put_same _ _ _

/-- make([]T, l, c): an array of ours, open. -/
theorem makeOpen_ok (g : Good φ H K w) {nx : Nat} (hfr : φ nx = none) (hzn : nx < FZ) {t e : TypeId} {ie : TypeInfo} {z : Value} {kl kc : IntKind} {zl zc : Int}
    (hu : P.underlying t = some (.slice e)) (hie : P.info? e = some ie) (hz : ie.zero = some z) (hw1 : IntKind.i64.wrap zl = zl) (hw2 : IntKind.i64.wrap zc = zc) (h0 : 0 ≤ zl) (h1 : zl ≤ zc) (h48 : (ie.bytes : Int) * zc ≤ 2 ^ 48)
    (hpos : 0 < z.cells.size) (hzs : z.cells.size = ie.size) (hav : avL z.cells.toList = true) {cs : List Value} (hcs : cs = (List.replicate zl.toNat z.cells.toList).flatten) :
    ∃ v' w' φ', (Instr.makeSlice t (.int kl zl) (.int kc zc)).run P w = .ok v' w' ∧ VRel φ' (.slice (some ⟨nx, 0, none⟩) zl.toNat (openCap + ie.size)) v' ∧ Ext K φ φ' nx (nx + 1) ∧ Good φ' ((nx, .cells cs false) :: H) K w' ∧ Went K w w' := by
  have hall : ∀ n : Nat, ((Array.range (n * ie.size)).map (z.cells[· % z.cells.size]!)).toList = (List.replicate n z.cells.toList).flatten := by
    intro n
    rw [Array.toList_map, Array.toList_range]
    induction n with
    | zero => simp
    | succ n ih =>
      have e1 : (n + 1) * ie.size = n * ie.size + ie.size := by rw [Nat.add_mul, Nat.one_mul]
      rw [List.replicate_succ', List.flatten_append, ← ih, e1, List.range_add, List.map_append]
      congr 1
      simp only [List.map_map, List.flatten_cons, List.flatten_nil, List.append_nil]
      apply List.ext_getElem
      · simp [hzs]
      · intro j h2 h3
        have hj : j < z.cells.size := by simpa using h3
        simp only [List.getElem_map, List.getElem_range, Function.comp]
        have : (n * ie.size + j) % z.cells.size = j := by
          rw [hzs, Nat.mul_comm, Nat.mul_add_mod]
          exact Nat.mod_eq_of_lt (by omega)
        rw [this]
        simp [hj]
  have hlen : ∀ n : Nat, ((List.replicate n z.cells.toList).flatten).length = n * ie.size := fun n => by simp [hzs]
  have havn : ∀ n : Nat, avL (List.replicate n z.cells.toList).flatten = true := by
    intro n
    have happ : ∀ (a b : List Value), avL a = true → avL b = true → avL (a ++ b) = true := by
      intro a b h2 h3
      induction a with
      | nil => exact h3
      | cons x a ih => simp only [avL, List.cons_append, Bool.and_eq_true] at h2 ⊢; exact ⟨h2.1, ih h2.2⟩
    induction n with
    | zero => rfl
    | succ n ih => rw [List.replicate_succ, List.flatten_cons]; exact happ _ _ hav ih
  have hsplit : (List.replicate zc.toNat z.cells.toList).flatten = cs ++ (List.replicate (zc.toNat - zl.toNat) z.cells.toList).flatten := by
    rw [hcs, ← List.flatten_append, List.replicate_append_replicate]
    congr 2; omega
  have hg := g.make hfr hzn (avL_rel (by rw [hcs]; exact havn _) : LRel φ cs cs) e (zc.toNat * ie.size) ((List.replicate (zc.toNat - zl.toNat) z.cells.toList).flatten) (by
    have h2 := congrArg List.length hsplit
    rw [hlen, List.length_append] at h2
    omega)
  rw [← hsplit] at hg
  refine ⟨.slice (some ⟨w.heap.size, 0, none⟩) zl.toNat zc.toNat, w.alloc (.cells ((Array.range (zc.toNat * ie.size)).map (z.cells[· % z.cells.size]!)) e), φ.put nx ⟨w.heap.size, 0, zc.toNat * ie.size, #[]⟩, ?_, ?_, Ext.put hfr hzn _, ?_, Went.alloc g _⟩
  · have c1 : (decide (zc < 0) || decide ((ie.bytes : Int) * zc > 2 ^ 48)) = false := by simp; omega
    have c2 : ¬ (zl < 0) := by omega
    have c3 : ¬ (zl > zc) := by omega
    by_cases hq : zc.toNat * ie.size = 0
    · simp only [Instr.makeSlice, Sem.run_bind, run_underlying hu, Result.andThen_ok, asInt, asIntOf, typeInfo, run_program, hie, Sem.run_pure, hw1, hw2]
      simp only [c1, c2, c3, decide_false, Bool.or_false, Bool.false_eq_true, if_false, Sem.run_pure, Result.andThen_ok, run_askRoom, run_sizeOf hie, Sem.run_bind, hq, if_true, range0, newRow, run_newObj]
      rfl
    · simp only [Instr.makeSlice, Sem.run_bind, run_underlying hu, Result.andThen_ok, asInt, asIntOf, typeInfo, run_program, hie, Sem.run_pure, hw1, hw2]
      simp only [c1, c2, c3, decide_false, Bool.or_false, Bool.false_eq_true, if_false, Sem.run_pure, Result.andThen_ok, run_askRoom, run_sizeOf hie, Sem.run_bind, hq, run_zeroValue' hie hz, newRow, run_newObj]
      rfl
  · have := VRel.slO (φ := φ.put nx ⟨w.heap.size, 0, zc.toNat * ie.size, #[]⟩) nx 0 zl.toNat (openCap + ie.size) zc.toNat _ (Ren.put_same _ _ _) (by omega) (by omega) (by simp)
    simpa using this
  · have : ((Array.range (zc.toNat * ie.size)).map (z.cells[· % z.cells.size]!)) = ((List.replicate zc.toNat z.cells.toList).flatten).toArray := by
      apply Array.ext'; rw [hall]
    rw [this]; exact hg

/-- A slice literal: an array of ours, open. -/
theorem litOpen_ok (g : Good φ H K w) {nx : Nat} (hfr : φ nx = none) (hzn : nx < FZ) {t : TypeId} {len : Nat} {ps qs : List (Nat × Value)} {v : Value} {H' : Hp} {nx' : Nat} {e : TypeId} {ie : TypeInfo} (hu : undF P t = some (.slice e)) (hie : infoF P e = some ie)
    (h : doBuildSlice P H nx t len ps = some (v, H', nx')) (hp : PRel φ ps qs) {cs : List Value} (hH : H' = (nx, .cells cs false) :: H) (hl : cs.length = len * ie.size) :
    ∃ v' w' φ', (Instr.buildSlice t len qs.toArray).run P w = .ok v' w' ∧ VRel φ' (.slice (some ⟨nx, 0, none⟩) len (openCap + ie.size)) v' ∧ Ext K φ φ' nx (nx + 1) ∧ Good φ' ((nx, .cells cs false) :: H) K w' ∧ Went K w w' := by
  unfold doBuildSlice at h
  rw [hu] at h
  dsimp only at h
  rw [hie] at h
  dsimp only at h
  rw [undF_eq] at hu
  rw [infoF_eq] at hie
  split at h
  case h_2 => cases h
  rename_i z hz
  split at h
  case isFalse => cases h
  rename_i hc
  obtain ⟨h24, hop, hzv, hf, hpos⟩ := hc
  split at h
  case h_2 => cases h
  rename_i cells hcells
  split at h
  case isFalse => cases h
  rename_i hav
  cases h
  simp only [List.cons.injEq, Prod.mk.injEq, Blk.cells.injEq, and_true, true_and] at hH
  subst hH
  obtain ⟨out', ho', hr⟩ := fill_rel _ hp hf (avL_rel hav) hcells
  have hlo := hr.length
  have hg := g.make hfr hzn hr e (len * ie.size) [] (by simp at hlo hl ⊢; omega)
  simp only [List.append_nil, Array.toArray_toList] at hg
  refine ⟨.slice (some ⟨w.heap.size, 0, none⟩) len len, w.alloc (.cells out' e), _, ?_, ?_, Ext.put hfr hzn _, hg, Went.alloc g _⟩
  · have h24' : ¬ (len * ie.size > 2 ^ 24) := by omega
    by_cases h0 : len * ie.size = 0
    · rw [h0, range0] at ho'
      simp [Instr.buildSlice, run_underlying hu, run_sizeOf hie, h0, range0, ho', newRow]
    · simp [Instr.buildSlice, run_underlying hu, run_sizeOf hie, h24', h0, run_zeroValue' hie hz, ho', newRow] at h24' ⊢
  · have := VRel.slO (φ := φ.put nx ⟨w.heap.size, 0, len * ie.size, #[]⟩) nx 0 len (openCap + ie.size) len _ (Ren.put_same _ _ _) (by omega) (Nat.le_refl _) (by simp)
    simpa using this

/-- copy into an array of ours, from what is known. -/
theorem copyTo_ok (g : Good φ H K w) {t ts ty e : TypeId} {ie : TypeInfo} (hu : P.underlying t = some (.slice e)) (hie : P.info? e = some ie) {b n c : Nat} {cs : List Value} (hb : H.get b = some (.cells cs false)) {d' x' x : Value}
    (hd : VRel φ (.slice (some ⟨b, 0, none⟩) n c) d') {m : Nat} {news : List Value} (hsrc : srcCells H ie.size x = some (m, news)) (hx : VRel φ x x') (hn : cs.length = n * ie.size) (hp : 0 < ie.size) (h1 : oneL news = true) :
    ∃ w', (Builtin.copy_ #[t, ts] ty #[d', x']).run P w = .ok (goInt (Nat.min m n)) w' ∧ Good φ (H.set b (.cells (spl cs 0 (news.take (Nat.min m n * ie.size))) false)) K w' ∧ Went K w w' := by
  obtain ⟨ax', cx', us, rfl, hul, hur, hu0, hax, hcell⟩ := srcCells_ok g hsrc hx
  have hd' : ∃ a' c', d' = .slice a' n c' ∧ (n ≠ 0 → ∃ L, φ b = some L ∧ a' = some ⟨L.blk, L.off + 0, none⟩) := by
    cases hd with
    | sl _ _ _ _ L h _ => exact ⟨_, _, rfl, fun _ => ⟨L, h, rfl⟩⟩
    | slO _ _ _ _ c' L h _ _ _ => exact ⟨_, _, rfl, fun _ => ⟨L, h, rfl⟩⟩
    | slE _ _ _ a' L h _ => exact ⟨_, _, rfl, fun h0 => absurd rfl h0⟩
  obtain ⟨a', c', rfl, hna⟩ := hd'
  by_cases h0 : Nat.min m n = 0
  · have hset : H.set b (.cells (spl cs 0 (news.take (Nat.min m n * ie.size))) false) = H.set b (.cells cs false) := by rw [h0]; simp [spl]
    refine ⟨w, ?_, ?_, Went.refl _ _⟩
    · cases ax' <;> cases a' <;> simp [Builtin.copy_, run_underlying hu, Builtin.lenOf, h0, run_sizeOf hie, Builtin.firstCells, loadCells, loadCellsFrom, storeCells]
    · rw [hset]
      refine g.sub fun d k hd => ?_
      rw [Hp.get_set] at hd
      split at hd
      · rename_i hdb
        subst hdb
        rw [hb] at hd ⊢
        simpa using hd
      · exact hd
  · have hn0 : n ≠ 0 := fun e => h0 (by subst e; exact Nat.min_zero _)
    have hm0 : m ≠ 0 := fun e => h0 (by subst e; exact Nat.zero_min _)
    obtain ⟨L, hL, rfl⟩ := hna hn0
    have hk : Nat.min m n * ie.size ≤ m * ie.size := Nat.mul_le_mul_right _ (Nat.min_le_left _ _)
    have hk2 : Nat.min m n * ie.size ≤ n * ie.size := Nat.mul_le_mul_right _ (Nat.min_le_right _ _)
    have hlen := hur.length
    have hl2 : (news.take (Nat.min m n * ie.size)).length = Nat.min m n * ie.size := by simp; omega
    have hpos : 0 < Nat.min m n * ie.size := Nat.mul_pos (Nat.pos_of_ne_zero h0) hp
    have hone : ∀ (l : List Value) (j : Nat), oneL l = true → oneL (l.take j) = true := by
      intro l
      induction l with
      | nil => intro j _; simp [oneL]
      | cons x l ih =>
        intro j h
        cases j with
        | zero => rfl
        | succ j =>
          simp only [oneL, List.take_succ_cons, Bool.and_eq_true] at h ⊢
          exact ⟨h.1, ih j h.2⟩
    obtain ⟨w', hst, hg, hw⟩ := g.write P hb hL 0 (by rw [hl2, hn]; omega) (hone _ _ h1) (hur.take (Nat.min m n * ie.size)) (by intro h; rw [h] at hl2; simp at hl2; omega)
    refine ⟨w', ?_, hg, hw⟩
    cases ax' with
    | none => exact absurd (hax rfl) hm0
    | some a =>
      have hf := run_firstCells_some (P := P) w ie.size (Nat.min m n) a m cx' (us.take (Nat.min m n * ie.size)) (by simp; omega) (fun j v hv => by
        rw [List.getElem?_take] at hv
        split at hv
        · exact hcell a rfl j v hv
        · cases hv)
      simp [Builtin.copy_, run_underlying hu, Builtin.lenOf, run_sizeOf hie, hf] at hst ⊢
      rw [hst]
      simp
end Go.Fz.Sy
/- The symbolic engine, part H: operations that decide something; what follows them is handed to them. -/
noncomputable section
namespace Go.Fz.Sy
set_option linter.unusedVariables false
set_option linter.unusedSimpArgs false
variable {P : Program} {φ : Ren} {K : Nat → Prop} {w : World} {R : Type}

abbrev KO (R : Type) := SV → SH → Nat → Option R
/-- What follows is told what the operation comes to. -/
def Told (P : Program) (rd : Option Nat) (o : Oper) (tm : List SV) (H : SH) (nx : Nat) (k : KO R) (r : R) : Prop := ∃ v H' nx', SOp P rd o tm H nx v H' nx' ∧ k v H' nx' = some r
theorem told {rd : Option Nat} {o : Oper} {tm : List SV} {H H' : SH} {nx nx' : Nat} {k : KO R} {r : R} {v : SV} (h : SOp P rd o tm H nx v H' nx') (hk : k v H' nx' = some r) : Told P rd o tm H nx k r := ⟨v, H', nx', h, hk⟩

/-! ### pick, division, shifts -/
theorem bif_split {b : Bool} {x y : Option R} {r : R} (h : (bif b then x else y) = some r) : (b = true ∧ x = some r) ∨ (b = false ∧ y = some r) := by
  cases b
  · exact .inr ⟨rfl, h⟩
  · exact .inl ⟨rfl, h⟩
def pickK (tm : List SV) (H : SH) (nx : Nat) (c a b : Operand) (k : KO R) : Option R := match sopv tm H c with
  | some (.bool c) => match sopv tm H a, sopv tm H b with
    | some x, some y => bif c then k x H nx else k y H nx
    | _, _ => none
  | _ => none
theorem pickK_ok {rd : Option Nat} {o : Oper} {tm : List SV} {H : SH} {nx : Nat} {k : KO R} {r : R} {c a b : Operand} (ho : o.op = .pick c a b) (h : pickK tm H nx c a b k = some r) : Told P rd o tm H nx k r := by
  unfold pickK at h
  split at h
  case h_2 => cases h
  rename_i cb hc
  split at h
  case h_2 => cases h
  rename_i x y hx hy
  rcases bif_split h with ⟨rfl, h⟩ | ⟨rfl, h⟩
  · refine told (sop_same (Nat.le_refl _) fun ν => ?_) h
    have h1 := sopv_den hc ν
    simp only [den] at h1
    unfold doOp; simp only [ho, h1, sopv_den hx ν]; rfl
  · refine told (sop_same (Nat.le_refl _) fun ν => ?_) h
    have h1 := sopv_den hc ν
    simp only [den] at h1
    unfold doOp; simp only [ho, h1, sopv_den hy ν]; rfl

def shrI (k : IntKind) (a b : Int) : Int := a.fdiv (2 ^ (min b.toNat k.bits))
def shlI (k : IntKind) (a b : Int) : Int := k.wrap (a * 2 ^ (min b.toNat k.bits))
theorem bin_sc {t : TypeId} {op : BinOp} {k k' : IntKind} {a b r : Int} (hf : binF op (.int k a) (.int k' b) = none) (xo yo : Operand) (h : plain P (do eqGuard op t xo yo (.int k a) (.int k' b); binOp op t (.int k a) (.int k' b)) = some (.int k r)) : doBin P op t xo yo (.int k a) (.int k' b) = some (.int k r) := by
  unfold doBin sc
  rw [hf, h]
  rfl
theorem rem_bin {t : TypeId} {k : IntKind} {a b : Int} (hb : b ≠ 0) (xo yo : Operand) : doBin P .rem t xo yo (.int k a) (.int k b) = some (.int k (a.tmod b)) := by
  refine bin_sc (by unfold binF; simp [keqF_refl]) xo yo ?_
  show plain P (if k ≠ k then stuck _ else Op.intDiv .rem k a b) = _
  rw [if_neg (by simp)]
  unfold Op.intDiv
  rw [if_neg hb]
  rfl
theorem quo_bin {t : TypeId} {k : IntKind} {a b : Int} (hb : b ≠ 0) (xo yo : Operand) : doBin P .quo t xo yo (.int k a) (.int k b) = some (.int k (k.wrap (a.tdiv b))) := by
  refine bin_sc (by unfold binF; simp [keqF_refl]) xo yo ?_
  show plain P (if k ≠ k then stuck _ else Op.intDiv .quo k a b) = _
  rw [if_neg (by simp)]
  unfold Op.intDiv
  rw [if_neg hb]
  rfl
theorem binF_shift {op : BinOp} (h : op = .shl ∨ op = .shr) (k k' : IntKind) (a b : Int) : binF op (.int k a) (.int k' b) = none := by
  unfold binF
  cases hk : keqF k k' <;> rcases h with rfl | rfl <;> simp
theorem shr_bin {t : TypeId} {k k' : IntKind} {a b : Int} (hb : 0 ≤ b) (xo yo : Operand) : doBin P .shr t xo yo (.int k a) (.int k' b) = some (.int k (shrI k a b)) := by
  refine bin_sc (binF_shift (.inr rfl) ..) xo yo ?_
  show plain P (Op.shift .shr k a k' b) = _
  unfold Op.shift
  rw [if_neg (by omega)]
  rfl
theorem shl_bin {t : TypeId} {k k' : IntKind} {a b : Int} (hb : 0 ≤ b) (xo yo : Operand) : doBin P .shl t xo yo (.int k a) (.int k' b) = some (.int k (shlI k a b)) := by
  refine bin_sc (binF_shift (.inl rfl) ..) xo yo ?_
  show plain P (Op.shift .shl k a k' b) = _
  unfold Op.shift
  rw [if_neg (by omega)]
  rfl
def divK (tm : List SV) (H : SH) (nx : Nat) (op : BinOp) (x y : Operand) (k : KO R) : Option R := match sopv tm H x, sopv tm H y with
  | some (.int i a), some (.int j b) => match op with
    | .quo => bif keqF i j then (bif ieqF b 0 then none else k (.int i (wrF i (a.tdiv b))) H nx) else none
    | .rem => bif keqF i j then (bif ieqF b 0 then none else k (.int i (a.tmod b)) H nx) else none
    | .shr => bif iltF b 0 then none else k (.int i (shrI i a b)) H nx
    | .shl => bif iltF b 0 then none else k (.int i (shlI i a b)) H nx
    | _ => none
  | _, _ => none
theorem divK_ok {rd : Option Nat} {o : Oper} {tm : List SV} {H : SH} {nx : Nat} {k : KO R} {r : R} {op : BinOp} {t u : TypeId} {x y : Operand} (ho : o.op = .binOp op t x y u) (h : divK tm H nx op x y k = some r) : Told P rd o tm H nx k r := by
  unfold divK at h
  split at h
  case h_2 => cases h
  rename_i i a j b hx hy
  have key : ∀ z, (∀ xo yo, doBin P op t xo yo (.int i a) (.int j b) = some (.int i z)) → k (.int i z) H nx = some r → Told P rd o tm H nx k r := fun z hz hk => by
    refine told (sop_same (Nat.le_refl _) fun ν => ?_) hk
    have h1 := sopv_den hx ν
    have h2 := sopv_den hy ν
    simp only [den] at h1 h2
    unfold doOp; simp only [ho, h1, h2, Option.bind_some, hz, den]; rfl
  split at h
  · obtain ⟨h1, h2⟩ := cond_some h
    have := keqF_eq h1
    subst this
    rcases bif_split h2 with ⟨_, h3⟩ | ⟨h3, h4⟩
    · cases h3
    · rw [ieqF_eq] at h3
      have hb : b ≠ 0 := by simpa using h3
      rw [wrF_eq] at h4
      exact key _ (fun xo yo => quo_bin hb xo yo) h4
  · obtain ⟨h1, h2⟩ := cond_some h
    have := keqF_eq h1
    subst this
    rcases bif_split h2 with ⟨_, h3⟩ | ⟨h3, h4⟩
    · cases h3
    · rw [ieqF_eq] at h3
      have hb : b ≠ 0 := by simpa using h3
      exact key _ (fun xo yo => rem_bin hb xo yo) h4
  · rcases bif_split h with ⟨_, h3⟩ | ⟨h3, h4⟩
    · cases h3
    · rw [iltF_eq] at h3
      have hb : 0 ≤ b := by simpa using h3
      exact key _ (fun xo yo => shr_bin hb xo yo) h4
  · rcases bif_split h with ⟨_, h3⟩ | ⟨h3, h4⟩
    · cases h3
    · rw [iltF_eq] at h3
      have hb : 0 ≤ b := by simpa using h3
      exact key _ (fun xo yo => shl_bin hb xo yo) h4
  · cases h

/-! ### Elements -/
def atI {α : Type} (l : List α) (z : Int) : Option α := match z with
  | .ofNat n => gl l n
  | .negSucc _ => none
theorem atI_some {α : Type} {l : List α} {z : Int} {x : α} (h : atI l z = some x) : 0 ≤ z ∧ z < l.length ∧ l[z.toNat]? = some x := by
  unfold atI at h
  split at h
  · rename_i n
    rw [gl_eq] at h
    have := (List.getElem?_eq_some_iff.1 h).1
    exact ⟨Int.natCast_nonneg n, by show (n : Int) < _; omega, h⟩
  · cases h
def opt {α : Type} (x : Option α) (f : α → Option R) : Option R := match x with
  | some a => f a
  | none => none
theorem opt_some {α : Type} {x : Option α} {f : α → Option R} {r : R} (h : opt x f = some r) : ∃ a, x = some a ∧ f a = some r := by
  cases x with
  | none => cases h
  | some a => exact ⟨a, rfl, h⟩
/-- One of the first numbers. -/
def caseI : Nat → Nat → Int → (Nat → Option R) → Option R
  | 0, _, _, _ => none
  | m + 1, j, i, f => bif ieqF i j then f j else caseI m (j + 1) i f
theorem caseI_some {f : Nat → Option R} {r : R} {i : Int} : ∀ {m j : Nat}, caseI m j i f = some r → ∃ n : Nat, i = n ∧ j ≤ n ∧ n < j + m ∧ f n = some r
  | 0, _, h => by cases h
  | m + 1, j, h => by
    simp only [caseI] at h
    rcases bif_split h with ⟨h1, h2⟩ | ⟨_, h2⟩
    · rw [ieqF_eq] at h1
      exact ⟨j, by simpa using h1, Nat.le_refl _, by omega, h2⟩
    · obtain ⟨n, e1, e2, e3, e4⟩ := caseI_some h2
      exact ⟨n, e1, by omega, by omega, e4⟩
def sizeIs (P : Program) (e : TypeId) (n : Nat) : Bool := match infoF P e with
  | some i => Nat.beq i.size n
  | none => false
theorem sizeIs_some {e : TypeId} {n : Nat} (h : sizeIs P e n = true) : ∃ i, infoF P e = some i ∧ i.size = n := by
  unfold sizeIs at h
  split at h
  · exact ⟨_, by assumption, Nat.eq_of_beq_eq_true h⟩
  · cases h
def ixAddrK (P : Program) (tm : List SV) (H : SH) (nx : Nat) (t : TypeId) (x i : Operand) (k : KO R) : Option R := match sopv tm H x, sopv tm H i with
  | some v, some (.int _ z) => match undF P t with
    | some (.slice e) => match v with
      | .lst ty l _ => bif sizeIs P e (sz ty) then opt (atI l z) fun y => k (.fel ty y 0) H nx else none
      | .own b => match sget H b with
        | some (.arr _ ty l) => bif sizeIs P e (sz ty) then opt (atI l z) fun _ => k (.elp b (sz ty) z.toNat 0) H nx else none
        | some (.roa _ ty l) => bif sizeIs P e (sz ty) then opt (atI l z) fun _ => k (.elp b (sz ty) z.toNat 0) H nx else none
        | _ => none
      | _ => none
    | some (.array n e) => match v with
      | .ptr b o => match infoF P e with
        | some ie => caseI n 0 z fun j => k (.ptr b (o + j * ie.size)) H nx
        | none => none
      | _ => none
    | _ => none
  | _, _ => none
theorem idx_of {z : Int} {n : Nat} {k : IntKind} (h0 : 0 ≤ z) (h1 : z < n) : idx (.int k z) n = some z.toNat := by simp [idx, h0, h1]
theorem ixAddrK_ok {rd : Option Nat} {o : Oper} {tm : List SV} {H : SH} {nx : Nat} {k : KO R} {r : R} {t : TypeId} {x i : Operand} (ho : o.op = .indexAddr t x i) (h : ixAddrK P tm H nx t x i k = some r) : Told P rd o tm H nx k r := by
  unfold ixAddrK at h
  split at h
  case h_2 => cases h
  rename_i v ik z hx hi
  have hi' := fun ν => sopv_den hi ν
  have hx' := fun ν => sopv_den hx ν
  simp only [den] at hi'
  -- an array of ours
  have own : ∀ (b : Nat) (nn : Bool) (ty : Ty) (l : List (T ty)) (e : TypeId), v = .own b → reg (sget H b) = some (l.length, rsz nn ty l) → undF P t = some (.slice e) → (bif sizeIs P e (sz ty) then opt (atI l z) fun _ => k (.elp b (sz ty) z.toNat 0) H nx else none) = some r → Told P rd o tm H nx k r := by
    rintro b nn ty l e rfl hr hu h
    obtain ⟨h1, h⟩ := cond_some h
    obtain ⟨y, hy, h⟩ := opt_some h
    obtain ⟨e1, e2, e3⟩ := atI_some hy
    obtain ⟨ie, hie, hsz⟩ := sizeIs_some h1
    refine told ⟨RegLe.refl H, LKeep.refl H, Nat.le_refl _, fun ν hv => ⟨hv, opOk_plain ?_⟩⟩ h
    have hn : nilA nn l = false := nilA_ne (fun h => by subst h; simp at e2; omega)
    have hρ : den (rho ν H) (.own b) = .slice (some ⟨b, 0, none⟩) l.length (openCap + sz ty) := by simp only [den]; rw [rho_of ν hr, hn]; rfl
    have h2 := hx' ν
    rw [hρ] at h2
    unfold doOp
    simp only [ho, h2, hi' ν, Option.bind_some]
    have h3 : doIndexAddr P t (.slice (some ⟨b, 0, none⟩) l.length (openCap + sz ty)) (.int ik z) = some (.pointer (some ⟨b, z.toNat * sz ty, none⟩)) := by
      simp [doIndexAddr, hu, idx_of e1 e2, hie, hsz]
    simp only [h3, den]
    rfl
  split at h
  · rename_i e hu
    split at h
    · rename_i ty l full
      obtain ⟨h1, h⟩ := cond_some h
      obtain ⟨y, hy, h⟩ := opt_some h
      obtain ⟨e1, e2, e3⟩ := atI_some hy
      obtain ⟨ie, hie, hsz⟩ := sizeIs_some h1
      refine told (sop_same (Nat.le_refl _) fun ν => ?_) h
      have hes : fzEls (den (rho ν H) (.lst ty l full)) = some (sz ty, (l.map (encE ty)).toArray, full) := by cases full <;> simp [den, fzV, fzEls]
      have h2 : fzIx P t (den (rho ν H) (.lst ty l full)) (.int ik z) = some (.iface 0 (.iface 0 (encE ty y))) := by
        have h4 : idx (.int ik z) ((l.map (encE ty)).toArray).size = some z.toNat := by
          rw [show ((l.map (encE ty)).toArray).size = l.length by simp]; exact idx_of e1 e2
        have h5 : ((l.map (encE ty)).toArray)[z.toNat]? = some (encE ty y) := by simp [e3]
        unfold fzIx
        simp only [hes, hu, h4, hie, h5, hsz, if_true]
      have h3 : doIndexAddr P t (den (rho ν H) (.lst ty l full)) (.int ik z) = none := by cases full <;> simp [den, fzV, doIndexAddr, hu]
      unfold doOp
      simp only [ho, hx' ν, hi' ν, Option.bind_some, h3, h2]
      simp [un1, den]
    · rename_i b
      split at h
      · rename_i nn ty l hb
        exact own b nn ty l e rfl (by rw [hb]; rfl) hu h
      · rename_i nn ty l hb
        exact own b nn ty l e rfl (by rw [hb]; rfl) hu h
      · cases h
    · cases h
  · rename_i n e hu
    split at h
    case h_2 => cases h
    rename_i b off
    split at h
    case h_2 => cases h
    rename_i ie hie
    obtain ⟨j, rfl, _, e3, h⟩ := caseI_some h
    refine told (sop_same (Nat.le_refl _) fun ν => ?_) h
    have h4 : idx (.int ik (j : Int)) n = some j := by
      have := idx_of (k := ik) (z := (j : Int)) (n := n) (Int.natCast_nonneg j) (by omega)
      simpa using this
    have h3 : doIndexAddr P t (den (rho ν H) (.ptr b off)) (.int ik (j : Int)) = some (.pointer (some ⟨b, off + j * ie.size, none⟩)) := by
      simp [doIndexAddr, hu, den, h4, hie]
    unfold doOp
    simp only [ho, hx' ν, hi' ν, Option.bind_some, h3]
    simp [un1, den]
  · cases h
/-- An element of an array value. -/
def indexK (P : Program) (tm : List SV) (H : SH) (nx : Nat) (t : TypeId) (x i : Operand) (k : KO R) : Option R := match sopv tm H x, sopv tm H i with
  | some (.agg cs), some (.int _ z) => match undF P t with
    | some (.array n e) => match infoF P e with
      | some ie => caseI n 0 z fun j => opt (partS P e cs (j * ie.size)) fun v => k v H nx
      | none => none
    | _ => none
  | _, _ => none
theorem indexK_ok {rd : Option Nat} {o : Oper} {tm : List SV} {H : SH} {nx : Nat} {k : KO R} {r : R} {t : TypeId} {x i : Operand} (ho : o.op = .index t x i) (h : indexK P tm H nx t x i k = some r) : Told P rd o tm H nx k r := by
  unfold indexK at h
  split at h
  case h_2 => cases h
  rename_i cs ik z hx hi
  split at h
  case h_2 => cases h
  rename_i n e hu
  split at h
  case h_2 => cases h
  rename_i ie hie
  obtain ⟨j, rfl, _, e3, h⟩ := caseI_some h
  obtain ⟨v, hv, h⟩ := opt_some h
  refine told (sop_same (Nat.le_refl _) fun ν => ?_) h
  have h1 := sopv_den hx ν
  have h2 := sopv_den hi ν
  simp only [den] at h1 h2
  have h4 : idx (.int ik (j : Int)) n = some j := by
    have := idx_of (k := ik) (z := (j : Int)) (n := n) (Int.natCast_nonneg j) (by omega)
    simpa using this
  unfold doOp
  simp only [ho, h1, h2, Option.bind_some]
  have h5 := partS_den (ρ := rho ν H) hv
  have : doIndex P t (.agg (denL (rho ν H) cs).toArray) (.int ik (j : Int)) = some (den (rho ν H) v) := by
    simp [doIndex, hu, h4, hie, h5]
  rw [this]
  rfl
/-- A load from an element of an array of ours. -/
def ldElK (P : Program) (tm : List SV) (H : SH) (nx : Nat) (t : TypeId) (a : Operand) (k : KO R) : Option R := match sopv tm H a with
  | some (.elp b s i off) => match sget H b with
    | some (.arr _ ty l) => bif Nat.beq s (sz ty) then opt (gl l i) fun y => opt (loadCs P t (encL ty y) off) fun v => k v H nx else none
    | some (.roa _ ty l) => bif Nat.beq s (sz ty) then opt (gl l i) fun y => opt (loadCs P t (encL ty y) off) fun v => k v H nx else none
    | _ => none
  | _ => none
theorem loadCs_arr {ρ : Nat → Value} {t : TypeId} {ty : Ty} {l : List (T ty)} {i off : Nat} {y : T ty} {v : SV} (hy : l[i]? = some y) (h : loadCs P t (encL ty y) off = some v) {Hd : Hp} {b : Nat} {ro : Bool} (hb : Hd.get b = some (.cells (flatA ty l) ro)) :
    doLoad P Hd t (.pointer (some ⟨b, i * sz ty + off, none⟩)) = some (den ρ v) := by
  have he : encC ty y = denL ρ (encL ty y) := by rw [denL_map, encL_den]
  unfold loadCs at h
  split at h
  case h_2 => cases h
  rename_i d inf hd hi
  simp only [doLoad, hb, hd, hi]
  cases ha : aggD d with
  | true =>
    rw [ha] at h
    simp only [cond_true] at h
    obtain ⟨h1, h2⟩ := cond_some h
    cases h2
    have h3 := Nat.le_of_ble_eq_true h1
    rw [encL_len] at h3
    obtain ⟨e1, e2⟩ := flatA_part ty l hy h3
    simp only [if_true, e1, e2, den, denL_take, denL_drop, he]
  | false =>
    rw [ha] at h
    simp only [cond_false, gl_eq] at h
    have hk : off < sz ty := by have := (List.getElem?_eq_some_iff.1 h).1; rwa [encL_len] at this
    have := flatA_get ty l hy hk
    simp only [Bool.false_eq_true, if_false, this, he, denL_get, h, Option.map_some]
theorem ldElK_ok {rd : Option Nat} {o : Oper} {tm : List SV} {H : SH} {nx : Nat} {k : KO R} {r : R} {t : TypeId} {a : Operand} (ho : o.op = .load t a) (h : ldElK P tm H nx t a k = some r) : Told P rd o tm H nx k r := by
  unfold ldElK at h
  split at h
  case h_2 => cases h
  rename_i b s i off ha
  have key : ∀ (nn : Bool) (ty : Ty) (l : List (T ty)) (ro : Bool), (∀ ν, (bif nilA nn l then none else some (Blk.cells (flatA ty l) ro)) = (sget H b).bind (denB (rho ν H) (ν b))) → reg (sget H b) = some (l.length, rsz nn ty l) →
      (bif Nat.beq s (sz ty) then opt (gl l i) fun y => opt (loadCs P t (encL ty y) off) fun v => k v H nx else none) = some r → Told P rd o tm H nx k r := by
    intro nn ty l ro hden hr h0
    obtain ⟨h1, h2⟩ := cond_some h0
    have := Nat.eq_of_beq_eq_true h1
    subst this
    obtain ⟨y, hy, h3⟩ := opt_some h2
    obtain ⟨v, hv, h4⟩ := opt_some h3
    rw [gl_eq] at hy
    refine told ⟨RegLe.refl H, LKeep.refl H, Nat.le_refl _, fun ν hvn => ⟨hvn, opOk_plain ?_⟩⟩ h4
    have hn : nilA nn l = false := nilA_ne (fun h => by subst h; simp at hy)
    have hd : (denH ν H).get b = some (.cells (flatA ty l) ro) := by rw [denH_get, ← hden ν, hn]; rfl
    have h2 := sopv_den ha ν
    simp only [den] at h2
    unfold doOp
    simp only [ho, h2, Option.bind_some, loadCs_arr (ρ := rho ν H) hy hv hd]
    rfl
  split at h
  · rename_i nn ty l hb
    exact key nn ty l false (fun ν => by rw [hb]; rfl) (by rw [hb]; rfl) h
  · rename_i nn ty l hb
    exact key nn ty l true (fun ν => by rw [hb]; rfl) (by rw [hb]; rfl) h
  · cases h
end Go.Fz.Sy
/- The symbolic engine, part I: slices cut, made, laid out, written, copied, appended to. -/
noncomputable section
namespace Go.Fz.Sy
set_option linter.unusedVariables false
set_option linter.unusedSimpArgs false
variable {P : Program} {φ : Ren} {K : Nat → Prop} {w : World} {R : Type}

/-! ### Slice expressions -/
def hiI (n : Nat) : Option Int → Option Nat
  | none => some n
  | some (.ofNat q) => bif Nat.ble q n then some q else none
  | some (.negSucc _) => none
def loI (h : Nat) : Option Int → Option Nat
  | none => some 0
  | some (.ofNat p) => bif Nat.ble p h then some p else none
  | some (.negSucc _) => none
def mxI (h : Nat) : Option Int → Bool
  | none => true
  | some (.ofNat m) => Nat.beq m h
  | some (.negSucc _) => false
/-- l[lo:hi:mx]; mx, if there is one, is hi. -/
def cutI {α : Type} (l : List α) (lo hi mx : Option Int) : Option (List α) := match hiI l.length hi with
  | some h => match loI h lo with
    | some p => bif mxI h mx then some ((l.take h).drop p) else none
    | none => none
  | none => none
def intO : Option SV → Option (Option Int)
  | none => some none
  | some (.int _ z) => some (some z)
  | _ => none
theorem hiI_bnd {n h : Nat} {v : Option SV} {z : Option Int} {ρ : Nat → Value} (hz : intO v = some z) (h1 : hiI n z = some h) : highB (v.map (den ρ)) n n = some h ∧ h ≤ n ∧ ∀ u, v = some u → ∀ m, h ≤ m → bnd (den ρ u) m = some h := by
  unfold intO at hz
  split at hz
  · cases hz
    simp only [hiI, Option.some.injEq] at h1
    subst h1
    exact ⟨by simp [highB], Nat.le_refl _, fun u hu => by cases hu⟩
  · rename_i k z
    cases hz
    unfold hiI at h1
    split at h1
    · rename_i he; cases he
    · rename_i q he
      cases he
      obtain ⟨h2, h3⟩ := cond_some h1
      cases h3
      have h2 := Nat.le_of_ble_eq_true h2
      refine ⟨?_, h2, fun u hu m hm => ?_⟩
      · simp [highB, den, bnd, h2]
      · cases hu
        simp [den, bnd, hm]
    · cases h1
  · cases hz
theorem loI_bnd {h p : Nat} {v : Option SV} {z : Option Int} {ρ : Nat → Value} (hz : intO v = some z) (h1 : loI h z = some p) : lowB (v.map (den ρ)) h = some p ∧ p ≤ h := by
  unfold intO at hz
  split at hz
  · cases hz
    simp only [loI, Option.some.injEq] at h1
    subst h1
    exact ⟨rfl, Nat.zero_le _⟩
  · rename_i k z
    cases hz
    unfold loI at h1
    split at h1
    · rename_i he; cases he
    · rename_i q he
      cases he
      obtain ⟨h2, h3⟩ := cond_some h1
      cases h3
      have h2 := Nat.le_of_ble_eq_true h2
      exact ⟨by simp [lowB, den, bnd, h2], h2⟩
    · cases h1
  · cases hz
theorem cutI_bnds {α : Type} {l l' : List α} {lo hi mx : Option SV} {a b c : Option Int} {ρ : Nat → Value} (ha : intO lo = some a) (hb : intO hi = some b) (hc : intO mx = some c) (hhi : mx.isSome = true → hi.isSome = true) (h : cutI l a b c = some l') :
    ∃ p q, bnds l.length l.length (lo.map (den ρ)) (hi.map (den ρ)) (mx.map (den ρ)) = some (p, q, mx.map fun _ => q) ∧ p ≤ q ∧ q ≤ l.length ∧ l' = (l.take q).drop p ∧ (hi = none → q = l.length) := by
  unfold cutI at h
  split at h
  case h_2 => cases h
  rename_i q hq
  split at h
  case h_2 => cases h
  rename_i p hp
  obtain ⟨h1, h2⟩ := cond_some h
  cases h2
  obtain ⟨e1, e2, e3⟩ := hiI_bnd (ρ := ρ) hb hq
  obtain ⟨f1, f2⟩ := loI_bnd (ρ := ρ) ha hp
  refine ⟨p, q, ?_, f2, e2, rfl, fun hn => ?_⟩
  · cases mx with
    | none =>
      simp only [Option.map_none, bnds, e1, f1, Option.bind_some]
    | some m =>
      cases hi with
      | none => simp at hhi
      | some hv =>
        have hm : bnd (den ρ m) l.length = some q := by
          unfold intO at hc
          split at hc
          · rename_i he; cases he
          · rename_i k z he
            cases he
            cases hc
            unfold mxI at h1
            split at h1
            · rename_i he; cases he
            · rename_i y he
              cases he
              have := Nat.eq_of_beq_eq_true h1
              subst this
              simp [den, bnd, e2]
            · cases h1
          · cases hc
        simp only [Option.map_some, bnds, hm, Option.bind_some, e3 hv rfl q (Nat.le_refl _), f1]
  · subst hn
    simp only [intO, Option.some.injEq] at hb
    subst hb
    simp only [hiI, Option.some.injEq] at hq
    exact hq.symm
theorem full_weak {s : Nat} {full : Bool} {es : List Value} {v' : Value} (h : VRel φ (fzV s full es) v') : VRel φ (fzV s false es) v' := by
  cases full with
  | false => exact h
  | true =>
    unfold fzV at h ⊢
    simp only [cond_true, cond_false] at h ⊢
    generalize es.toArray = a at h ⊢
    cases h with
    | fq _ _ b o L hL hn ho hs h => exact .fz _ _ b o _ L hL hn ho (Nat.le_refl _) hs h
    | fq0 _ a => exact .fz0 _ _ _
theorem slice_run {t e : TypeId} {ie : TypeInfo} {ty : Ty} {l l' : List (T ty)} {full : Bool} {lo hi mx : Option SV} {a b c : Option Int} {ρ : Nat → Value} (hu : undF P t = some (.slice e)) (hie : infoF P e = some ie) (hsz : ie.size = sz ty) (ha : intO lo = some a) (hb : intO hi = some b)
    (hc : intO mx = some c) (hhi : mx.isSome = true → hi.isSome = true) (h : cutI l a b c = some l') {x' : Value} {lo' hi' mx' : Option Value} (hx : VRel φ (fzV (sz ty) full (l.map (encE ty))) x') (h1 : ORel φ (lo.map (den ρ)) lo') (h2 : ORel φ (hi.map (den ρ)) hi') (h3 : ORel φ (mx.map (den ρ)) mx') (w : World) :
    ∃ v', (Instr.sliceAt t x' lo' hi' mx').run P w = .ok v' w ∧ VRel φ (fzV (sz ty) (mx.isSome || (full && hi.isNone)) (l'.map (encE ty))) v' := by
  obtain ⟨p, q, e1, e2, e3, e4, e5⟩ := cutI_bnds (ρ := ρ) ha hb hc hhi h
  have hlen : ((l.map (encE ty)).toArray).size = l.length := by simp
  have hext : ((l.map (encE ty)).toArray).extract p q = (l'.map (encE ty)).toArray := by
    apply Array.ext'
    rw [e4]
    simp [List.drop_take, List.map_drop, List.map_take]
  have hes : fzEls (fzV (sz ty) full (l.map (encE ty))) = some (sz ty, (l.map (encE ty)).toArray, full) := by cases full <;> simp [fzV, fzEls]
  have key : ∃ f2, fzSlice P t (fzV (sz ty) full (l.map (encE ty))) (lo.map (den ρ)) (hi.map (den ρ)) (mx.map (den ρ)) = some (fzV (sz ty) f2 (l'.map (encE ty))) ∧ ((mx.isSome || (full && hi.isNone)) = true → f2 = true) := by
    unfold fzSlice
    simp only [hes, hu, hie, hlen, e1, hsz, if_true]
    cases mx with
    | some m => exact ⟨true, by simp [Nat.beq_refl, hext, fzV], fun _ => rfl⟩
    | none =>
      simp only [Option.map_none, Option.isSome_none, Bool.false_or]
      cases hf : (full && Nat.beq q l.length) with
      | true => exact ⟨true, by simp only [if_true]; simp only [hext, fzV, cond_true], fun _ => rfl⟩
      | false =>
        refine ⟨false, by simp only [Bool.false_eq_true, if_false]; simp only [hext, fzV, cond_false], fun h => ?_⟩
        simp only [Bool.and_eq_true] at h
        obtain ⟨h4, h5⟩ := h
        have : hi = none := by cases hi <;> simp at h5 ⊢
        rw [h4, e5 this, Nat.beq_refl] at hf
        cases hf
  obtain ⟨f2, h4, h5⟩ := key
  obtain ⟨v', r1, r2⟩ := fzSlice_ok h4 hx h1 h2 h3 w
  refine ⟨v', r1, ?_⟩
  cases hcase : (mx.isSome || (full && hi.isNone)) with
  | true => rw [h5 hcase] at r2; exact r2
  | false => exact full_weak r2
def sliceK (P : Program) (tm : List SV) (H : SH) (nx : Nat) (t : TypeId) (x : Operand) (lo hi mx : Option Operand) (k : KO R) : Option R :=
  match sopv tm H x, sopvo tm H lo, sopvo tm H hi, sopvo tm H mx with
  | some v, some lo, some hi, some mx => match undF P t, intO lo, intO hi, intO mx with
    | some (.slice e), some a, some b, some c => bif (!mx.isSome || hi.isSome) then match v with
      | .lst ty l full => bif sizeIs P e (sz ty) then opt (cutI l a b c) fun l' => k (.lst ty l' (mx.isSome || (full && hi.isNone))) H nx else none
      | .own bl => match sget H bl with
        | some (.arr nn ty l) => bif sizeIs P e (sz ty) && Nat.blt 0 (sz ty) then opt (cutI l a b c) fun l' => k (.lst ty l' mx.isSome) (sset H bl (.fro nn ty l)) nx else none
        | _ => none
      | _ => none
      else none
    | _, _, _, _ => none
  | _, _, _, _ => none
theorem sliceK_ok {rd : Option Nat} {o : Oper} {tm : List SV} {H : SH} {nx : Nat} {k : KO R} {r : R} {t : TypeId} {x : Operand} {lo hi mx : Option Operand} (ho : o.op = .slice t x lo hi mx) (h : sliceK P tm H nx t x lo hi mx k = some r) : Told P rd o tm H nx k r := by
  unfold sliceK at h
  split at h
  case h_2 => cases h
  rename_i v lo1 hi1 mx1 hx hlo hhi hmx
  split at h
  case h_2 => cases h
  rename_i e a b c hu ha hb hc
  have h6 := cond_some h
  clear h
  obtain ⟨hh, h⟩ := h6
  have hhi2 : mx1.isSome = true → hi1.isSome = true := fun h1 => by simpa [h1] using hh
  split at h
  · rename_i ty l full
    obtain ⟨h1, h⟩ := cond_some h
    obtain ⟨l', hl, h⟩ := opt_some h
    obtain ⟨ie, hie, hsz⟩ := sizeIs_some h1
    refine told ⟨RegLe.refl H, LKeep.refl H, Nat.le_refl _, fun ν hv => ⟨hv, ?_⟩⟩ h
    refine opOk_run (Nat.le_refl _) (fun c hc => by rw [ho] at hc; cases hc) fun φ w K ac g hf ht => ?_
    have hxr := opv_rel ht (sopv_den hx ν)
    simp only [den] at hxr
    obtain ⟨v', r1, r2⟩ := slice_run hu hie hsz ha hb hc hhi2 hl hxr (opvo_rel ht (sopvo_den hlo ν)) (opvo_rel ht (sopvo_den hhi ν)) (opvo_rel ht (sopvo_den hmx ν)) w
    unfold execOp
    simp only [ho]
    exact Ran.op (Ran.same g ⟨v', r1, by simpa only [den] using r2⟩)
  · rename_i bl
    split at h
    case h_2 => cases h
    rename_i nn ty l hbl
    obtain ⟨h1, h⟩ := cond_some h
    simp only [Bool.and_eq_true] at h1
    obtain ⟨l', hl, h⟩ := opt_some h
    obtain ⟨ie, hie, hsz⟩ := sizeIs_some h1.1
    have hg := ghost_freeze hbl
    refine told ⟨hg.1.regLe, hg.1.lkeep, Nat.le_refl _, fun ν hv => ⟨hg.1.vn hv, opOk_ghost hg ?_⟩⟩ h
    refine opOk_run (Nat.le_refl _) (fun c hc => by rw [ho] at hc; cases hc) fun φ w K ac g hf ht => ?_
    have hxr := opv_rel ht (sopv_den hx ν)
    simp only [den] at hxr
    rw [← hg.1.rho ν] at hxr
    have hb2 : sget (sset H bl (.fro nn ty l)) bl = some (.fro nn ty l) := by rw [sget_set, if_pos rfl, hbl]; rfl
    have hxr := fro_rel g (hg.1.vn hv) hb2 (blt_pos h1.2) hxr
    obtain ⟨v', r1, r2⟩ := slice_run hu hie hsz ha hb hc hhi2 hl hxr (opvo_rel ht (sopvo_den hlo ν)) (opvo_rel ht (sopvo_den hhi ν)) (opvo_rel ht (sopvo_den hmx ν)) w
    unfold execOp
    simp only [ho]
    exact Ran.op (Ran.same g ⟨v', r1, by simpa only [den, Bool.false_and, Bool.or_false] using r2⟩)
  · cases h

/-! ### The length of an array of ours -/
def lenK (P : Program) (tm : List SV) (H : SH) (nx : Nat) (t : TypeId) (x : Operand) (k : KO R) : Option R := match sopv tm H x, undF P t with
  | some (.own b), some (.slice _) => match reg (sget H b) with
    | some (n, _) => k (.int .i64 n) H (nx + 1)
    | none => none
  | _, _ => none
theorem lenK_ok {rd : Option Nat} {o : Oper} {tm : List SV} {H : SH} {nx : Nat} {k : KO R} {r : R} {t : TypeId} {x : Operand} (ho : o.op = .call { callee := .builtin .len, args := #[x], argTypes := #[t] }) (h : lenK P tm H nx t x k = some r) : Told P rd o tm H nx k r := by
  unfold lenK at h
  split at h
  case h_2 => cases h
  rename_i b e hx hu
  split at h
  case h_2 => cases h
  rename_i n s hr
  refine told ⟨RegLe.refl H, LKeep.refl H, Nat.le_succ _, fun ν hv => ⟨hv.later (Nat.le_succ _), opOk_plain ?_⟩⟩ h
  have h1 := sopv_den hx ν
  unfold doOp
  simp only [ho, opvs, h1, Option.bind_some]
  have hlen : doLen P t (den (rho ν H) (.own b)) = some (goInt n) := by
    simp only [den, rho, hr]
    cases s with
    | succ s => simp [doLen, hu]
    | zero =>
      have := hv.empty b n hr
      subst this
      simp [doLen, hu]
  simp only [doBuiltin, hlen]
  simp [un1, den, goInt]

/-! ### make, literals -/
def zeroD : (t : Ty) → T t
  | .unit => ()
  | .bool => false
  | .int _ => 0
  | .str => ByteArray.empty
  | .list _ => []
  | .pair a b => (zeroD a, zeroD b)
/-- The cells begin with the zero of a type of data. -/
def isZero : (t : Ty) → List Value → Option (List Value)
  | .unit, cs => some cs
  | .bool, cs => match cs with
    | .bool false :: r => some r
    | _ => none
  | .int k, cs => match cs with
    | .int k' z :: r => bif keqF k k' && ieqF z 0 then some r else none
    | _ => none
  | .str, cs => match cs with
    | .string s :: r => bif Nat.beq s.size 0 then some r else none
    | _ => none
  | .list _, cs => match cs with
    | .slice none 0 0 :: r => some r
    | _ => none
  | .pair a b, cs => match isZero a cs with
    | some r => isZero b r
    | none => none
theorem isZero_ok : ∀ (t : Ty) {cs r : List Value}, isZero t cs = some r → ∃ c, cs = c ++ r ∧ c.length = sz t ∧ avL c = true ∧ ∀ (φ : Ren) us, LRel φ c us → LRel φ (encC t (zeroD t)) us
  | .unit, cs, r, h => by
    simp only [isZero, Option.some.injEq] at h
    subst h
    exact ⟨[], rfl, rfl, rfl, fun φ us h => h⟩
  | .bool, cs, r, h => by
    simp only [isZero] at h
    split at h
    · cases h; exact ⟨[.bool false], rfl, rfl, rfl, fun φ us h => h⟩
    · cases h
  | .int k, cs, r, h => by
    simp only [isZero] at h
    split at h
    · obtain ⟨h1, h2⟩ := cond_some h
      cases h2
      simp only [Bool.and_eq_true] at h1
      have e1 := keqF_eq h1.1
      have e2 := h1.2
      rw [ieqF_eq] at e2
      simp only [beq_iff_eq] at e2
      subst e1; subst e2
      exact ⟨[.int k 0], rfl, rfl, rfl, fun φ us h => h⟩
    · cases h
  | .str, cs, r, h => by
    simp only [isZero] at h
    split at h
    · rename_i s r'
      obtain ⟨h1, h2⟩ := cond_some h
      cases h2
      have e1 := Nat.eq_of_beq_eq_true h1
      have : s = ByteArray.empty := by
        obtain ⟨d⟩ := s
        have : d = #[] := Array.eq_empty_of_size_eq_zero e1
        subst this; rfl
      subst this
      exact ⟨[.string ByteArray.empty], rfl, rfl, rfl, fun φ us h => h⟩
    · cases h
  | .list t, cs, r, h => by
    simp only [isZero] at h
    split at h
    · cases h
      refine ⟨[.slice none 0 0], rfl, rfl, rfl, fun φ us h => ?_⟩
      match us, h with
      | [], h => exact h.elim
      | u :: us, h =>
        refine ⟨?_, h.2⟩
        have h1 := h.1
        cases h1
        exact .fz0 _ _ _
    · cases h
  | .pair a b, cs, r, h => by
    simp only [isZero] at h
    split at h
    case h_2 => cases h
    rename_i r1 h1
    obtain ⟨c1, rfl, l1, a1, z1⟩ := isZero_ok a h1
    obtain ⟨c2, rfl, l2, a2, z2⟩ := isZero_ok b h
    have happ : ∀ (a b : List Value), avL a = true → avL b = true → avL (a ++ b) = true := by
      intro a b h2 h3
      induction a with
      | nil => exact h3
      | cons x a ih => simp only [avL, List.cons_append, Bool.and_eq_true] at h2 ⊢; exact ⟨h2.1, ih h2.2⟩
    refine ⟨c1 ++ c2, by simp, by simp [sz, l1, l2], happ _ _ a1 a2, fun φ us h => ?_⟩
    have hlen := h.length
    rw [List.length_append] at hlen
    have h3 := h.take c1.length
    have h4 := h.drop c1.length
    rw [List.take_left] at h3
    rw [List.drop_left] at h4
    have := (z1 φ _ h3).append (z2 φ _ h4)
    rw [List.take_append_drop] at this
    exact this
/-- The zero of a Go type. -/
def zeroT (P : Program) (e : TypeId) (ty : Ty) : Bool := match infoF P e with
  | some i => match i.zero with
    | some z => match isZero ty z.cells.toList with
      | some [] => Nat.blt 0 i.size && Nat.beq (sz ty) i.size
      | _ => false
    | none => false
  | none => false
theorem zeroT_ok {e : TypeId} {ty : Ty} (h : zeroT P e ty = true) : ∃ i z, P.info? e = some i ∧ i.zero = some z ∧ z.cells.size = i.size ∧ 0 < i.size ∧ sz ty = i.size ∧ avL z.cells.toList = true ∧ ∀ (φ : Ren) us, LRel φ z.cells.toList us → LRel φ (encC ty (zeroD ty)) us := by
  unfold zeroT at h
  split at h
  case h_2 => cases h
  rename_i i hi
  split at h
  case h_2 => cases h
  rename_i z hz
  split at h
  case h_2 => cases h
  rename_i hc
  simp only [Bool.and_eq_true] at h
  have e2 := blt_lt h.1
  have e3 := Nat.eq_of_beq_eq_true h.2
  rw [infoF_eq] at hi
  obtain ⟨c, h1, h2, h3, h4⟩ := isZero_ok ty hc
  rw [List.append_nil] at h1
  refine ⟨i, z, hi, hz, ?_, e2, e3, by rw [h1]; exact h3, fun φ us h => h4 φ us (by rw [← h1]; exact h)⟩
  have := congrArg List.length h1
  rw [h2, e3] at this
  simpa using this
/-- The data of a Go type. -/
def tyOf (P : Program) : Nat → TypeId → Option Ty
  | 0, _ => none
  | n + 1, t => match undF P t with
    | some .bool => some .bool
    | some (.int k) => some (.int k)
    | some .string => some .str
    | some (.slice e) => match tyOf P n e with
      | some a => some (.list a)
      | none => none
    | some (.struct fields) => fields.toList.foldr (fun f acc => match tyOf P n f.type, acc with
      | some a, some b => some (match b with | .unit => a | b => .pair a b)
      | _, _ => none) (some .unit)
    | some (.array m e) => match tyOf P n e with
      | some a => (List.replicate m a).foldr (fun a acc => match acc with
        | some b => some (match b with | .unit => a | b => .pair a b)
        | none => none) (some .unit)
      | none => none
    | _ => none
end Go.Fz.Sy
/- The symbolic engine, part J: slices made, laid out, written, copied. -/
noncomputable section
namespace Go.Fz.Sy
set_option linter.unusedVariables false
set_option linter.unusedSimpArgs false
variable {P : Program} {φ : Ren} {K : Nat → Prop} {w : World} {R : Type}

/-- A new block of which nothing is said. -/
theorem good_skip {ν : Nat → Bool} {H : SH} {nx : Nat} {k : SB} (hn : sget H nx = none) (hx : denB (rho ν ((nx, k) :: H)) (ν nx) k = none) (g : Good φ (denH ν H) K w) : Good φ (denH ν ((nx, k) :: H)) K w := by
  have h1 : RLe (rho ν H) (rho ν ((nx, k) :: H)) := rho_le ν (new_reg hn)
  have g1 : Good φ (denHr ν (rho ν ((nx, k) :: H)) H) K w := good_rho (rho_junk ν H) h1 g
  refine g1.sub fun c x hc => ?_
  rw [denH_get, sget_cons] at hc
  by_cases hb : nx = c
  · subst hb
    rw [if_pos rfl] at hc
    simp only [Option.bind_some] at hc
    rw [hx] at hc; cases hc
  · rw [if_neg hb] at hc
    rw [denHr_get]; exact hc
/-- A new array of ours. -/
theorem good_newArr {ν : Nat → Bool} {H : SH} {nx : Nat} {nn : Bool} {ty : Ty} {l : List (T ty)} (hn : sget H nx = none) (hv : VN ν nx H) (g : Good φ ((nx, .cells (flatA ty l) false) :: denH ν H) K w) : Good φ (denH ν ((nx, .arr nn ty l) :: H)) K w := by
  cases h : nilA nn l with
  | false => exact good_newS hn (x := .cells (flatA ty l) false) (by simp [denB, h]) g
  | true =>
    refine good_skip hn (by simp [denB, h]) (g.sub fun c k hc => ?_)
    have : (nx == c) = false := by
      rw [beq_eq_false_iff_ne]
      rintro rfl
      rw [denH_get, hn] at hc; cases hc
    simp [Hp.get_cons, this, hc]
theorem rho_newArr {ν : Nat → Bool} {H : SH} {nx : Nat} {nn : Bool} {ty : Ty} {l : List (T ty)} (hv : VN ν nx H) (hl : nilA nn l = false) : rho ν ((nx, .arr nn ty l) :: H) nx = .slice (some ⟨nx, 0, none⟩) l.length (openCap + sz ty) := by
  rw [rho_of ν (nn := nn) (t := ty) (l := l) (by rw [sget_cons, if_pos rfl]; rfl), hl]
  rfl
theorem rho_newNil {ν : Nat → Bool} {H : SH} {nx : Nat} {nn : Bool} {ty : Ty} {l : List (T ty)} (hl : nilA nn l = true) : rho ν ((nx, .arr nn ty l) :: H) nx = .slice none 0 0 := by
  rw [rho_of ν (nn := nn) (t := ty) (l := l) (by rw [sget_cons, if_pos rfl]; rfl), hl]
  rfl
/-- Less is said of a block's cells. -/
theorem good_recell {H : Hp} {b : Nat} {cs ds : List Value} (g : Good φ ((b, .cells cs false) :: H) K w) (h : ∀ us, LRel φ cs us → LRel φ ds us) (hl : ds.length = cs.length) : Good φ ((b, .cells ds false) :: H) K w := by
  have hget : ∀ c k, Hp.get ((b, Blk.cells ds false) :: H) c = some k → (c = b ∧ k = .cells ds false ∧ Hp.get ((b, Blk.cells cs false) :: H) c = some (.cells cs false)) ∨ (c ≠ b ∧ Hp.get ((b, Blk.cells cs false) :: H) c = some k) := by
    intro c k hc
    by_cases hcb : b = c
    · subst hcb; simp [Hp.get_cons] at hc; exact .inl ⟨rfl, hc.symm, by simp [Hp.get_cons]⟩
    · simp [Hp.get_cons, hcb] at hc; exact .inr ⟨fun e => hcb e.symm, by simp [Hp.get_cons, hcb, hc]⟩
  refine ⟨fun c k hc => ?_, fun c d k k' L L' hc hd hne hkr hL hL' => ?_, fun c k L hc hkr hL => ?_, g.kin, g.fz, fun c k L e M hc hkr hL hM => ?_⟩
  · rcases hget c k hc with ⟨rfl, rfl, h1⟩ | ⟨_, h1⟩
    · obtain ⟨L, hL, arr, el, fr, e1, e2, e3⟩ := g.rel c _ h1
      have hex : ∀ j, j < cs.length → ∃ v', arr[L.off + j]? = some v' := fun j hj => by
        obtain ⟨v', h2, _⟩ := e2 j cs[j] (by simp)
        exact ⟨v', h2⟩
      have hus : LRel φ cs ((List.range cs.length).map fun j => arr[L.off + j]?.getD undef) := by
        refine LRel.of_get (by simp) fun i v v' hv hv' => ?_
        obtain ⟨u, h2, h3⟩ := e2 i v hv
        have hi : i < cs.length := (List.getElem?_eq_some_iff.1 hv).1
        simp [hi, h2] at hv'
        subst hv'; exact h3
      refine ⟨L, hL, arr, el, fr, e1, fun j v hv => ?_, e3⟩
      have hj : j < cs.length := by have := (List.getElem?_eq_some_iff.1 hv).1; omega
      obtain ⟨v', h2⟩ := hex j hj
      obtain ⟨u, h3, h4⟩ := (h _ hus).get hv
      simp [hj, h2] at h3
      subst h3
      exact ⟨_, h2, h4⟩
    · exact g.rel c k h1
  · rcases hget c k hc with ⟨rfl, rfl, h1⟩ | ⟨_, h1⟩
    · rcases hget d k' hd with ⟨rfl, _⟩ | ⟨_, h2⟩
      · exact absurd rfl hne
      · exact g.sep c d _ k' L L' h1 h2 hne rfl hL hL'
    · rcases hget d k' hd with ⟨rfl, rfl, h2⟩ | ⟨_, h2⟩
      · exact g.sep c d k _ L L' h1 h2 hne hkr hL hL'
      · exact g.sep c d k k' L L' h1 h2 hne hkr hL hL'
  · rcases hget c k hc with ⟨rfl, rfl, h1⟩ | ⟨_, h1⟩
    · exact g.prot c _ L h1 rfl hL
    · exact g.prot c k L h1 hkr hL
  · rcases hget c k hc with ⟨rfl, rfl, h1⟩ | ⟨_, h1⟩
    · exact g.fsep c _ L e M h1 rfl hL hM
    · exact g.fsep c k L e M h1 hkr hL hM

/-! ### make -/
def mkOk (zl zc : Int) (bytes : Nat) : Bool := !iltF zl 0 && (!iltF zc zl && !iltF 281474976710656 ((bytes : Int) * zc))
def makeK (P : Program) (tm : List SV) (H : SH) (nx : Nat) (t : TypeId) (l c : Operand) (k : KO R) : Option R := match sopv tm H l, sopv tm H c with
  | some (.int _ zl), some (.int _ zc) => match undF P t with
    | some (.slice e) => match infoF P e, tyOf P 20 e with
      | some ie, some ty => bif zeroT P e ty && Nat.blt 0 ie.bytes then match newS H nx (.arr true ty (List.replicate zl.toNat (zeroD ty))) with
          | some H' => bif mkOk zl zc ie.bytes then k (.own nx) H' (nx + 1) else none
          | none => none
        else none
      | _, _ => none
    | _ => none
  | _, _ => none
theorem flatA_replicate (ty : Ty) (x : T ty) (n : Nat) : flatA ty (List.replicate n x) = (List.replicate n (encC ty x)).flatten := by
  induction n with
  | zero => rfl
  | succ n ih =>
    rw [List.replicate_succ, List.replicate_succ, List.flatten_cons, ← ih]; rfl
theorem lrel_replicate {a b : List Value} (h : ∀ us, LRel φ a us → LRel φ b us) (hl : b.length = a.length) : ∀ (n : Nat) us, LRel φ (List.replicate n a).flatten us → LRel φ (List.replicate n b).flatten us
  | 0, us, hr => hr
  | n + 1, us, hr => by
    rw [List.replicate_succ, List.flatten_cons] at hr ⊢
    have h3 := hr.take a.length
    have h4 := hr.drop a.length
    rw [List.take_left] at h3
    rw [List.drop_left] at h4
    have := (h _ h3).append (lrel_replicate h hl n _ h4)
    rw [List.take_append_drop] at this
    exact this
theorem makeK_ok {rd : Option Nat} {o : Oper} {tm : List SV} {H : SH} {nx : Nat} {k : KO R} {r : R} {t : TypeId} {l c : Operand} (ho : o.op = .makeSlice t l c) (h : makeK P tm H nx t l c k = some r) : Told P rd o tm H nx k r := by
  unfold makeK at h
  split at h
  case h_2 => cases h
  rename_i kl zl kc zc hl hc
  split at h
  case h_2 => cases h
  rename_i e hu
  split at h
  case h_2 => cases h
  rename_i ie ty hie hty
  have h6 := cond_some h
  clear h
  obtain ⟨hh, h⟩ := h6
  simp only [Bool.and_eq_true] at hh
  split at h
  case h_2 => cases h
  rename_i H1 hn
  have h6 := cond_some h
  clear h
  obtain ⟨hm, h⟩ := h6
  obtain ⟨hn1, rfl⟩ := newS_some hn
  obtain ⟨ie', z, e1, e2, e3, e4, e5, e6, e7⟩ := zeroT_ok hh.1
  rw [infoF_eq] at hie
  rw [undF_eq] at hu
  rw [hie] at e1; cases e1
  have hbp := blt_lt hh.2
  simp only [mkOk, Bool.and_eq_true, Bool.not_eq_true', iltF_eq, decide_eq_false_iff_not, Int.not_lt] at hm
  obtain ⟨m1, m2, m3⟩ := hm
  have hzc : zc ≤ 281474976710656 := by
    have : (1 : Int) * zc ≤ (ie.bytes : Int) * zc := Int.mul_le_mul_of_nonneg_right (by omega) (by omega)
    omega
  refine told ⟨new_reg hn1, new_lkeep hn1, Nat.le_succ _, fun ν hv => ⟨new_vn hv, ?_⟩⟩ h
  refine opOk_run (Nat.le_succ _) (fun c hc => by rw [ho] at hc; cases hc) fun φ w K a g hf ht => ?_
  have hl' := opv_rel ht (sopv_den hl ν)
  have hc' := opv_rel ht (sopv_den hc ν)
  simp only [den] at hl' hc'
  unfold execOp
  simp only [ho]
  generalize a.eval l = ul at hl'
  generalize a.eval c = uc at hc'
  cases hl'
  cases hc'
  have hfr := hf.at (Nat.le_refl nx) (Nat.lt_succ_self nx)
  obtain ⟨v', w', φ', r1, r2, r3, r4, r5⟩ := makeOpen_ok (P := P) (kl := kl) (kc := kc) g hfr.1 hfr.2 hu hie e2 (Go.IntWalk.i64_in _ (by omega)) (Go.IntWalk.i64_in _ (by omega)) m1 m2 m3 (by omega) e3 e6 rfl
  refine Ran.op ⟨v', w', φ', r1, ?_, r3, ?_, r5, Nat.le_succ _⟩
  · simp only [den]
    rw [rho_newArr hv rfl, List.length_replicate, e5]
    exact r2
  · refine good_newArr hn1 hv ?_
    refine good_recell r4 ?_ ?_
    · rw [flatA_replicate]
      exact lrel_replicate (e7 φ') (by rw [encC_len, e5, Array.length_toList, e3]) _
    · rw [flatA_len, List.length_replicate, e5]
      simp [e3]

/-! ### Slice literals -/
theorem fill_seq {s : Nat} : ∀ (us : List Value) (j : Nat) (arr : Array Value), (∀ u ∈ us, u.cells.size = s) → arr.size = (j + us.length) * s →
    Instr.fill (fun i => some (i * s, s)) arr ((us.zipIdx j).map fun p => (p.2, p.1)) = some (arr.toList.take (j * s) ++ us.flatMap fun u => u.cells.toList).toArray
  | [], j, arr, _, hl => by
    simp only [List.zipIdx_nil, List.map_nil, Instr.fill, List.flatMap_nil, List.append_nil, Option.some.injEq]
    apply Array.ext'
    rw [List.take_of_length_le (by simp at hl ⊢; omega)]
  | u :: us, j, arr, hu, hl => by
    have h1 := hu u (by simp)
    have hl2 : arr.size = j * s + s + us.length * s := by
      rw [hl, List.length_cons, Nat.add_mul, Nat.add_mul]; omega
    simp only [List.zipIdx_cons, List.map_cons, Instr.fill]
    rw [if_neg (by simp [h1]; omega)]
    have hf := foldl_spl u.cells.toList 0 (j * s) arr (by simp [h1]; omega)
    rw [← Array.foldl_toList, Array.toList_zipIdx]
    rw [fill_seq us (j + 1) _ (fun x hx => hu x (by simp [hx])) (by
      have := congrArg List.length hf
      rw [spl_length _ _ _ (by simp [h1]; omega)] at this
      simp only [Array.length_toList] at this
      rw [this, hl2, Nat.add_mul, Nat.add_mul]; omega)]
    rw [hf, List.flatMap_cons, ← List.append_assoc]
    congr 3
    unfold spl
    have e1 : (j + 1) * s = j * s + s := by rw [Nat.add_mul, Nat.one_mul]
    rw [List.take_left' (by simp [h1]; omega), Nat.add_zero]
/-- The parts of a literal, one after the other. -/
def litL (vt : VT) : List (Nat × SV) → Nat → SH → Option (List (T vt.ty) × SH)
  | [], _, H => some ([], H)
  | (j, v) :: r, i, H => bif Nat.beq i j then match cvV vt v H with
    | some (x, H1) => match litL vt r (i + 1) H1 with
      | some (xs, H2) => some (x :: xs, H2)
      | none => none
    | none => none
    else none
theorem litL_ok {vt : VT} : ∀ {ps : List (Nat × SV)} {i : Nat} {H H' : SH} {xs : List (T vt.ty)}, litL vt ps i H = some (xs, H') → Ghost H H' ∧ xs.length = ps.length ∧
    ∀ ν G, GLe H' G → ∀ (φ : Ren) (K : Nat → Prop) (w : World) (nx : Nat) (qs : List (Nat × Value)), Good φ (denH ν G) K w → VN ν nx G → PRel φ (ps.map fun p => (p.1, den (rho ν H) p.2)) qs →
      ∃ us : List Value, qs = (us.zipIdx i).map (fun p => (p.2, p.1)) ∧ us.length = xs.length ∧ ∀ (j : Nat) u x, us[j]? = some u → xs[j]? = some x → VRel φ (den (fun _ => bad) (mkV vt x)) u
  | [], i, H, H', xs, h => by
    simp only [litL, Option.some.injEq, Prod.mk.injEq] at h
    obtain ⟨rfl, rfl⟩ := h
    refine ⟨Ghost.refl _, rfl, fun ν G hG φ K w nx qs g hv hp => ?_⟩
    cases qs with
    | nil => exact ⟨[], rfl, rfl, fun j u x h => by simp at h⟩
    | cons q qs => exact hp.elim
  | (j0, v) :: r, i, H, H', xs, h => by
    simp only [litL] at h
    have h6 := cond_some h
    clear h
    obtain ⟨hb, h⟩ := h6
    have hj := Nat.eq_of_beq_eq_true hb
    clear hb
    subst hj
    split at h
    case h_2 => cases h
    rename_i x H1 h1
    split at h
    case h_2 => cases h
    rename_i ys H2 h2
    cases h
    obtain ⟨g1, r1⟩ := cvV_ok h1
    obtain ⟨g2, l2, r2⟩ := litL_ok h2
    refine ⟨g1.trans g2, by simp [l2], fun ν G hG φ K w nx qs g hv hp => ?_⟩
    cases qs with
    | nil => exact hp.elim
    | cons q qs =>
      obtain ⟨e1, e2, e3⟩ := hp
      obtain ⟨q1, q2⟩ := q
      dsimp only at e1 e2
      subst e1
      rw [← g1.1.rho ν] at e3
      obtain ⟨us, f1, f2, f3⟩ := r2 ν G hG φ K w nx qs g hv e3
      have f4 := r1 ν G (g2.1.trans hG) φ K w nx q2 g hv e2 (fun _ => bad)
      refine ⟨q2 :: us, by simp [f1], by simp [f2], fun j u y hu hy => ?_⟩
      cases j with
      | zero => simp at hu hy; subst hu; subst hy; exact f4
      | succ j => simp at hu hy; exact f3 j u y hu hy
theorem mkV_cells {vt : VT} {x : T vt.ty} {u : Value} (hagg : vt.agg = false → sz vt.ty = 1) (h : VRel φ (den (fun _ => bad) (mkV vt x)) u) : LRel φ (encC vt.ty x) u.cells.toList := by
  obtain ⟨ag, ty⟩ := vt
  cases ag with
  | true =>
    simp only [mkV, cond_true, den] at h
    obtain ⟨ys, rfl, hl⟩ := h.agg_inv
    simpa [denL_map, encL_den, Value.cells] using hl
  | false =>
    simp only [mkV, cond_false] at h
    have h1 := encL_len ty x
    rw [hagg rfl] at h1
    have h2 := encL_den (fun _ => bad) ty x
    match he : encL ty x, h1 with
    | [v], _ =>
      rw [he] at h h2
      simp only [mk1, List.map_cons, List.map_nil] at h h2
      rw [← h2]
      have h3 := h.one
      have h4 : (den (fun _ => bad) v).oneCell' = true := by
        -- a cell of a datum
        have : ∀ (t : Ty) (y : T t) (c : Value), c ∈ encC t y → c.oneCell' = true := by
          intro t
          induction t with
          | unit => intro y c hc; simp [encC] at hc
          | bool => intro y c hc; simp [encC] at hc; subst hc; rfl
          | int k => intro y c hc; simp [encC] at hc; subst hc; rfl
          | str => intro y c hc; simp [encC] at hc; subst hc; rfl
          | list t ih => intro y c hc; simp [encC] at hc; subst hc; rfl
          | pair a b iha ihb =>
            intro y c hc
            simp only [encC, List.mem_append] at hc
            rcases hc with hc | hc
            · exact iha _ _ hc
            · exact ihb _ _ hc
        refine this ty x _ ?_
        rw [← h2]; simp
      rw [cells_one (by rw [h3]; exact h4)]
      exact ⟨h, trivial⟩
end Go.Fz.Sy
/- The symbolic engine, part K: slice literals, elements written, copies, appends; all operations that call no Go function. -/
noncomputable section
namespace Go.Fz.Sy
set_option linter.unusedVariables false
set_option linter.unusedSimpArgs false
variable {P : Program} {φ : Ren} {K : Nat → Prop} {w : World} {R : Type}

theorem flatA_rel {ty : Ty} : ∀ {xs : List (T ty)} {us : List Value}, us.length = xs.length → (∀ (j : Nat) u x, us[j]? = some u → xs[j]? = some x → LRel φ (encC ty x) u.cells.toList) → LRel φ (flatA ty xs) (us.flatMap fun u => u.cells.toList)
  | [], [], _, _ => trivial
  | x :: xs, u :: us, hl, h => by
    have h1 := h 0 u x rfl rfl
    have h2 := flatA_rel (xs := xs) (us := us) (by simpa using hl) fun j u x hu hx => h (j + 1) u x (by simpa using hu) (by simpa using hx)
    simp only [List.flatMap_cons]
    exact h1.append h2
  | [], _ :: _, hl, _ => by simp at hl
  | _ :: _, [], hl, _ => by simp at hl
/-! ### Slice literals -/
def litK (P : Program) (tm : List SV) (H : SH) (nx : Nat) (t : TypeId) (n : Nat) (ps : List (Nat × Operand)) (k : KO R) : Option R := match sparts tm H ps, undF P t with
  | some vs, some (.slice e) => match infoF P e, tyOf P 20 e, undF P e with
    | some ie, some ty, some d => bif Nat.beq n vs.length && (Nat.ble (n * ie.size) 16777216 && (zeroT P e ty && (aggD d || Nat.beq (sz ty) 1))) then
        match litL ⟨aggD d, ty⟩ vs 0 H with
        | some (xs, H1) => match newS H1 nx (.arr true ty xs) with
          | some H2 => k (.own nx) H2 (nx + 1)
          | none => none
        | none => none
      else none
    | _, _, _ => none
  | _, _ => none
theorem partsS_rel {tm : List SV} {H : SH} {ν : Nat → Bool} {a : Act} (ht : TRel φ (denL (rho ν H) tm) a.tmps) {ps : List (Nat × Operand)} {vs : List (Nat × SV)} (h : sparts tm H ps = some vs) : PRel φ (vs.map fun p => (p.1, den (rho ν H) p.2)) (ps.map fun p => (p.1, a.eval p.2)) :=
  partsv_rel ht (sparts_den ν h)
theorem litK_ok {rd : Option Nat} {o : Oper} {tm : List SV} {H : SH} {nx : Nat} {k : KO R} {r : R} {t : TypeId} {n : Nat} {ps : Array (Nat × Operand)} (ho : o.op = .buildSlice t n ps) (h : litK P tm H nx t n ps.toList k = some r) : Told P rd o tm H nx k r := by
  unfold litK at h
  split at h
  case h_2 => cases h
  rename_i vs e hvs hu
  split at h
  case h_2 => cases h
  rename_i ie ty d hie hty hd
  have h6 := cond_some h
  clear h
  obtain ⟨hh, h⟩ := h6
  simp only [Bool.and_eq_true, Bool.or_eq_true] at hh
  obtain ⟨c1, c2, c3, c4⟩ := hh
  have c1 := Nat.eq_of_beq_eq_true c1
  have c2 := Nat.le_of_ble_eq_true c2
  split at h
  case h_2 => cases h
  rename_i xs H1 hl
  split at h
  case h_2 => cases h
  rename_i H2 hn
  obtain ⟨hn1, rfl⟩ := newS_some hn
  obtain ⟨hg, hxl, hrel⟩ := litL_ok hl
  obtain ⟨ie', z, e1, e2, e3, e4, e5, e6, e7⟩ := zeroT_ok c3
  rw [infoF_eq] at hie
  rw [undF_eq] at hu
  rw [hie] at e1; cases e1
  have hxn : xs.length = n := by rw [hxl, c1]
  refine told ⟨hg.1.regLe.trans (new_reg hn1), hg.1.lkeep.trans (new_lkeep hn1), Nat.le_succ _, fun ν hv => ⟨new_vn (hg.1.vn hv), opOk_ghost hg ?_⟩⟩ h
  have hv1 := hg.1.vn hv
  refine opOk_run (Nat.le_succ _) (fun c hc => by rw [ho] at hc; cases hc) fun φ w K a g hf ht => ?_
  have hp := partsS_rel ht hvs
  obtain ⟨us, f1, f2, f3⟩ := hrel ν H1 (GLe.refl _) φ K w nx _ g hv1 hp
  have hcell : ∀ (j : Nat) u x, us[j]? = some u → xs[j]? = some x → LRel φ (encC ty x) u.cells.toList := fun j u x hu hx => mkV_cells (vt := ⟨aggD d, ty⟩) (fun hagg => by
    dsimp only at hagg
    rw [hagg] at c4
    rcases c4 with c4 | c4
    · cases c4
    · exact Nat.eq_of_beq_eq_true c4) (f3 j u x hu hx)
  have hsize : ∀ u ∈ us, u.cells.size = ie.size := fun u hu => by
    obtain ⟨j, hj⟩ := List.getElem?_of_mem hu
    have hjl : j < xs.length := by have := (List.getElem?_eq_some_iff.1 hj).1; omega
    have := (hcell j u xs[j] hj (by simp)).length
    rw [encC_len, e5] at this
    simpa using this.symm
  have hfr := hf.at (Nat.le_refl nx) (Nat.lt_succ_self nx)
  have hrl := flatA_rel f2 hcell
  have hlim : (us.flatMap fun u => u.cells.toList).length = n * ie.size := by
    rw [← hrl.length, flatA_len, hxn, e5]
  have hg2 := g.make hfr.1 hfr.2 hrl e (n * ie.size) [] (by rw [hlim]; omega)
  simp only [List.append_nil] at hg2
  unfold execOp
  simp only [ho]
  refine Ran.op ⟨.slice (some ⟨w.heap.size, 0, none⟩) n n, w.alloc (.cells (us.flatMap fun u => u.cells.toList).toArray e), φ.put nx ⟨w.heap.size, 0, n * ie.size, #[]⟩, ?_, ?_, Ext.put hfr.1 hfr.2 _, good_newArr hn1 hv1 hg2, Went.alloc g _, Nat.le_succ _⟩
  · have hq : ps.toList.map (fun p => (p.1, a.eval p.2)) = us.zipIdx.map fun p => (p.2, p.1) := f1
    have hfill : ∀ arr : Array Value, arr.size = n * ie.size → Instr.fill (fun i => some (i * ie.size, ie.size)) arr (us.zipIdx.map fun p => (p.2, p.1)) = some (us.flatMap fun u => u.cells.toList).toArray := fun arr ha => by
      have := fill_seq us 0 arr hsize (by rw [ha, Nat.zero_add, f2, hxn])
      simpa using this
    have h24 : ¬ (n * ie.size > 2 ^ 24) := by omega
    by_cases h0 : n * ie.size = 0
    · have := hfill #[] (by simp [h0])
      simp [Instr.buildSlice, run_underlying hu, run_sizeOf hie, h0, range0, hq, this, newRow]
    · have := hfill ((Array.range (n * ie.size)).map (z.cells[· % z.cells.size]!)) (by simp)
      simp [Instr.buildSlice, run_underlying hu, run_sizeOf hie, h0, run_zeroValue' hie e2, hq, newRow] at this h24 ⊢
      simp [h24, this]
  · simp only [den]
    rw [rho_newArr hv1 rfl, hxn, e5]
    have := VRel.slO (φ := φ.put nx ⟨w.heap.size, 0, n * ie.size, #[]⟩) nx 0 n (openCap + ie.size) n _ (Ren.put_same _ _ _) (by omega) (Nat.le_refl _) (by simp)
    simpa using this

/-! ### An element written -/
theorem cvC_at : ∀ (t : Ty) {l : List SV} {H : SH} {x : T t} {r : List SV} {H' : SH}, cvC t l H = some (x, r, H') → l.length = sz t + r.length ∧ (∀ j, j + sz t < l.length → r[j]? = l[j + sz t]?) ∧ ∀ (y : T t) j, j < sz t → l[j]? = (encL t y)[j]? → (encC t x)[j]? = (encC t y)[j]?
  | .unit, l, H, x, r, H', h => by
    simp only [cvC] at h
    cases h
    exact ⟨by simp [sz], fun j _ => by simp [sz], fun y j hj => by simp [sz] at hj⟩
  | .bool, l, H, x, r, H', h => by
    simp only [cvC] at h
    split at h
    · cases h
      refine ⟨by simp [sz]; omega, fun j _ => by simp [sz], fun y j hj hl => ?_⟩
      simp only [sz, Nat.lt_one_iff] at hj
      subst hj
      simp only [encL, List.getElem?_cons_zero, Option.some.injEq, SV.bool.injEq] at hl
      subst hl; rfl
    · cases h
  | .int k, l, H, x, r, H', h => by
    simp only [cvC] at h
    split at h
    · obtain ⟨h1, h2⟩ := cond_some h
      cases h2
      refine ⟨by simp [sz]; omega, fun j _ => by simp [sz], fun y j hj hl => ?_⟩
      simp only [sz, Nat.lt_one_iff] at hj
      subst hj
      simp only [encL, List.getElem?_cons_zero, Option.some.injEq, SV.int.injEq] at hl
      obtain ⟨_, rfl⟩ := hl; rfl
    · cases h
  | .str, l, H, x, r, H', h => by
    simp only [cvC] at h
    split at h
    · cases h
      refine ⟨by simp [sz]; omega, fun j _ => by simp [sz], fun y j hj hl => ?_⟩
      simp only [sz, Nat.lt_one_iff] at hj
      subst hj
      simp only [encL, List.getElem?_cons_zero, Option.some.injEq, SV.str.injEq] at hl
      subst hl; rfl
    · cases h
  | .list t, l, H, x, r, H', h => by
    simp only [cvC] at h
    split at h
    · rename_i t' y0 full r'
      split at h
      · rename_i ht
        subst ht
        cases h
        refine ⟨by simp [sz]; omega, fun j _ => by simp [sz], fun y j hj hl => ?_⟩
        simp only [sz, Nat.lt_one_iff] at hj
        subst hj
        simp only [encL, List.getElem?_cons_zero, Option.some.injEq, SV.lst.injEq] at hl
        obtain ⟨_, h3, _⟩ := hl
        have := eq_of_heq h3
        subst this
        rfl
      · cases h
    · cases h
      refine ⟨by simp [sz]; omega, fun j _ => by simp [sz], fun y j hj hl => ?_⟩
      simp only [sz, Nat.lt_one_iff] at hj
      subst hj
      simp [encL] at hl
    · split at h
      · split at h
        · obtain ⟨_, h2⟩ := cond_some h
          cases h2
          refine ⟨by simp [sz]; omega, fun j _ => by simp [sz], fun y j hj hl => ?_⟩
          simp only [sz, Nat.lt_one_iff] at hj
          subst hj
          simp [encL] at hl
        · cases h
      · split at h
        · obtain ⟨_, h2⟩ := cond_some h
          cases h2
          refine ⟨by simp [sz]; omega, fun j _ => by simp [sz], fun y j hj hl => ?_⟩
          simp only [sz, Nat.lt_one_iff] at hj
          subst hj
          simp [encL] at hl
        · cases h
      · cases h
    · cases h
  | .pair a b, l, H, x, r, H', h => by
    simp only [cvC] at h
    split at h
    case h_2 => cases h
    rename_i x1 l1 H1 h1
    split at h
    case h_2 => cases h
    rename_i y l2 H2 h2
    cases h
    obtain ⟨e1, e2, e3⟩ := cvC_at a h1
    obtain ⟨f1, f2, f3⟩ := cvC_at b h2
    refine ⟨by simp only [sz]; omega, fun j hj => ?_, fun y' j hj hl => ?_⟩
    · simp only [sz] at hj ⊢
      rw [f2 j (by omega), e2 (j + sz b) (by omega)]
      congr 1; omega
    · simp only [encL] at hl
      simp only [encC]
      by_cases hja : j < sz a
      · rw [List.getElem?_append_left (by rw [encL_len]; exact hja)] at hl
        rw [List.getElem?_append_left (by rw [encC_len]; exact hja), List.getElem?_append_left (by rw [encC_len]; exact hja)]
        exact e3 y'.1 j hja hl
      · rw [List.getElem?_append_right (by rw [encL_len]; omega), encL_len] at hl
        rw [List.getElem?_append_right (by rw [encC_len]; omega), List.getElem?_append_right (by rw [encC_len]; omega), encC_len, encC_len]
        simp only [sz] at hj
        refine f3 y'.2 (j - sz a) (by omega) ?_
        rw [e2 (j - sz a) (by omega)]
        rw [show j - sz a + sz a = j by omega]
        exact hl
def stElK (P : Program) (tm : List SV) (H : SH) (nx : Nat) (t : TypeId) (a x : Operand) (k : KO R) : Option R := match sopv tm H a, sopv tm H x with
  | some (.elp b s i off), some v => match sget H b, infoF P t with
    | some (.arr nn ty l), some inf => bif Nat.beq s (sz ty) && (flatS v && (lenB (scells v) inf.size && (oneS (scells v) && (Nat.ble (off + inf.size) (sz ty) && Nat.blt 0 inf.size)))) then
        opt (gl l i) fun y => match cvC ty (splS (encL ty y) off (scells v)) H with
          | some (y', [], H1) => match sget H1 b with
            | some (.arr _ _ _) => k (.tup []) (sset H1 b (.arr nn ty (l.set i y'))) nx
            | _ => none
          | _ => none
      else none
    | _, _ => none
  | _, _ => none
theorem splS_len (cs : List SV) (o : Nat) (vs : List SV) (h : o + vs.length ≤ cs.length) : (splS cs o vs).length = cs.length := by simp [splS]; omega
theorem splS_get (cs : List SV) (o : Nat) (vs : List SV) (h : o + vs.length ≤ cs.length) (j : Nat) (hj : j < o ∨ o + vs.length ≤ j) : (splS cs o vs)[j]? = cs[j]? := by
  unfold splS
  have hm : (cs.take o).length = o := by simp; omega
  rcases hj with hj | hj
  · rw [List.append_assoc, List.getElem?_append_left (by omega), List.getElem?_take, if_pos hj]
  · rw [List.getElem?_append_right (by simp; omega), List.getElem?_drop]
    congr 1; simp; omega
theorem encC_one : ∀ (t : Ty) (y : T t) (c : Value), c ∈ encC t y → c.oneCell' = true := by
  intro t
  induction t with
  | unit => intro y c hc; simp [encC] at hc
  | bool => intro y c hc; simp [encC] at hc; subst hc; rfl
  | int k => intro y c hc; simp [encC] at hc; subst hc; rfl
  | str => intro y c hc; simp [encC] at hc; subst hc; rfl
  | list t ih => intro y c hc; simp [encC] at hc; subst hc; rfl
  | pair a b iha ihb =>
    intro y c hc
    simp only [encC, List.mem_append] at hc
    rcases hc with hc | hc
    · exact iha _ _ hc
    · exact ihb _ _ hc
theorem oneL_of : ∀ {l : List Value}, (∀ c ∈ l, c.oneCell' = true) → oneL l = true
  | [], _ => rfl
  | x :: l, h => by simp only [oneL, h x (by simp), oneL_of (l := l) fun c hc => h c (by simp [hc]), Bool.and_self]
theorem spl_rel {cs us : List Value} {o : Nat} {vs ys : List Value} (h : LRel φ cs us) (hv : LRel φ vs ys) : LRel φ (spl cs o vs) (spl us o ys) := by
  unfold spl
  rw [← hv.length]
  exact ((h.take o).append hv).append (h.drop _)
theorem stElK_ok {rd : Option Nat} {o : Oper} {tm : List SV} {H : SH} {nx : Nat} {k : KO R} {r : R} {t : TypeId} {ao xo : Operand} (ho : o.op = .store t ao xo) (h : stElK P tm H nx t ao xo k = some r) : Told P rd o tm H nx k r := by
  unfold stElK at h
  split at h
  case h_2 => cases h
  rename_i b s i off v ha hx
  split at h
  case h_2 => cases h
  rename_i nn ty l inf hb hi
  have h6 := cond_some h
  clear h
  obtain ⟨hh, h⟩ := h6
  simp only [Bool.and_eq_true] at hh
  obtain ⟨c1, c2, c3, c4, c5, c6⟩ := hh
  have c1 := Nat.eq_of_beq_eq_true c1
  have c3 := lenB_eq c3
  have c5 := Nat.le_of_ble_eq_true c5
  have c6 := blt_lt c6
  subst c1
  have h6 := opt_some h
  clear h
  obtain ⟨y, hy, h⟩ := h6
  rw [gl_eq] at hy
  split at h
  case h_2 => cases h
  rename_i y' H1 hcv
  split at h
  case h_2 => cases h
  rename_i nn1 ty1 l1 hb1
  obtain ⟨cs0, he0, hg, hcr⟩ := cvC_ok ty hcv
  simp only [List.append_nil] at he0
  have hb1' : sget H1 b = some (.arr nn ty l) := by
    rcases hg.1 b with h1 | ⟨nn2, t2, l2, h1, h2⟩
    · rw [h1, hb]
    · rw [h2] at hb1; cases hb1
  have hlt : i < l.length := (List.getElem?_eq_some_iff.1 hy).1
  have hreg : ∀ c, reg (sget (sset H1 b (.arr nn ty (l.set i y'))) c) = reg (sget H1 c) := fun c => by
    rw [sget_set]
    by_cases hc : c = b
    · subst hc; simp [hb1', reg, rsz, nilA_set]
    · rw [if_neg hc]
  have hnn : ∀ c, notNil (sget (sset H1 b (.arr nn ty (l.set i y'))) c) = true → notNil (sget H1 c) = true := fun c hc => by
    rw [sget_set] at hc
    by_cases hcb : c = b
    · subst hcb; simpa [hb1', notNil] using hc
    · rwa [if_neg hcb] at hc
  refine told ⟨hg.1.regLe.trans (fun c z hz => by rw [hreg c]; exact hz), hg.1.lkeep.trans (lkeep_set hb1' (fun L => by simp)), Nat.le_refl _, fun ν hv => ⟨vn_congr hreg hnn (hg.1.vn hv), opOk_ghost hg ?_⟩⟩ h
  have hv1 := hg.1.vn hv
  have hn : nilA nn l = false := nilA_ne (fun h => by subst h; simp at hlt)
  have hd : (denH ν H1).get b = some (.cells (flatA ty l) false) := by rw [denH_get, hb1']; simp [denB, hn]
  refine opOk_run (Nat.le_refl _) (fun c hc => by rw [ho] at hc; cases hc) fun φ w K a' g hf ht => ?_
  have har := opv_rel ht (sopv_den ha ν)
  have hxr := opv_rel ht (sopv_den hx ν)
  simp only [den] at har
  generalize hx' : a'.eval xo = x' at hxr
  obtain ⟨s1, s2⟩ := scells_den (ν := ν) (H := H) c2
  have hcells := hxr.cells' s2
  rw [s1] at hcells
  -- the new element
  have hlen0 : off + (scells v).length ≤ (encL ty y).length := by rw [encL_len, c3]; exact c5
  obtain ⟨L, hL⟩ := g.named hd
  obtain ⟨p1, p2⟩ := flatA_part ty l (k := 0) (n := sz ty) hy (by omega)
  rw [Nat.add_zero] at p1 p2
  have p3 : (encC ty y).take (sz ty) = encC ty y := List.take_of_length_le (by rw [encC_len]; omega)
  rw [List.drop_zero, p3] at p2
  obtain ⟨uy, hul, _, hur⟩ := g.read hd hL (i * sz ty) (sz ty) p1
  rw [p2] at hur
  have hxl : x'.cells.toList.length = inf.size := by rw [← hcells.length, denL_length, c3]
  have hnew : LRel φ (encC ty y') (spl uy off x'.cells.toList) := by
    refine hcr ν H1 (GLe.refl _) φ K w nx _ g hv1 ?_
    rw [← he0, splS_den]
    refine spl_rel ?_ hcells
    rw [denL_map, encL_den]; exact hur
  have hvs : LRel φ (((encC ty y').drop off).take inf.size) x'.cells.toList := by
    have h1 := (hnew.drop off).take inf.size
    have h2 : ((spl uy off x'.cells.toList).drop off).take inf.size = x'.cells.toList := by
      unfold spl
      have e1 : (uy.take off).length = off := by simp; omega
      rw [List.append_assoc, List.drop_left' e1, List.take_left' hxl]
    rwa [h2] at h1
  have hvl : (((encC ty y').drop off).take inf.size).length = inf.size := by rw [hvs.length, hxl]
  have hone : oneL (((encC ty y').drop off).take inf.size) = true := oneL_of fun c hc => encC_one ty y' c (List.mem_of_mem_drop (List.mem_of_mem_take hc))
  have hy2 : encC ty y' = spl (encC ty y) off (((encC ty y').drop off).take inf.size) := by
    apply List.ext_getElem?
    intro j
    rw [spl_get _ _ _ (by rw [hvl, encC_len]; exact c5), hvl]
    obtain ⟨q1, _, q3⟩ := cvC_at ty hcv
    by_cases h1 : j < off
    · rw [if_pos h1]
      refine q3 y j (by omega) ?_
      exact splS_get _ _ _ hlen0 j (.inl h1)
    · rw [if_neg h1]
      by_cases h2 : j < off + inf.size
      · rw [if_pos h2, List.getElem?_take, if_pos (by omega), List.getElem?_drop]
        congr 1; omega
      · rw [if_neg h2]
        by_cases h3 : j < sz ty
        · refine q3 y j h3 ?_
          exact splS_get _ _ _ hlen0 j (.inr (by omega))
        · rw [List.getElem?_eq_none (by rw [encC_len]; omega), List.getElem?_eq_none (by rw [encC_len]; omega)]
  have hset := flatA_set ty l (k := off) hy (by rw [hvl]; exact c5) hy2
  obtain ⟨w', hst, hg2, hw2⟩ := g.write P hd hL (i * sz ty + off) (by rw [hvl]; have := (flatA_part ty l (k := off) (n := inf.size) hy c5).1; omega) hone hvs (by intro h0; rw [h0] at hvl; simp at hvl; omega)
  rw [hset] at hg2
  rw [infoF_eq] at hi
  unfold execOp
  simp only [ho]
  generalize a'.eval ao = ua at har
  cases har with
  | ptr _ _ L2 hL2 =>
    rw [hL] at hL2; cases hL2
    refine opran_skip ⟨w', ?_, ?_, hw2⟩
    · simp only [Instr.storeAt, Instr.sureAddr, storeVar]
      have hsz : x'.cells.size = inf.size := by simpa using hxl
      rw [hx']
      simp [run_sizeOf hi, hsz]
      exact hst
    · refine hg2.sub fun c k hc => ?_
      rw [denH_get, sget_set, rho_congr hreg] at hc
      rw [Hp.get_set]
      by_cases hcb : c = b
      · subst hcb
        simp [hb1', denB, nilA_set, hn] at hc
        rw [if_pos rfl, hd]
        simp [hc]
      · rw [if_neg hcb] at hc ⊢
        rw [denH_get]; exact hc
end Go.Fz.Sy
