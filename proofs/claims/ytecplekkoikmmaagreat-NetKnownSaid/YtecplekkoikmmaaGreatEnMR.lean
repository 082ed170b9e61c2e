/- The engine, part MR: a loop over a map whose rounds leave nothing behind, in whatever order the entries come. -/
import Derived.Test.YtecplekkoikmmaaGreatEnKC
import Derived.Maps.RangeRun
noncomputable section
namespace Go.En
set_option linter.unusedVariables false
variable {P : Program} {φ : Ren} {H : Hp} {K : Nat → Prop} {w : World}

/-! ### Forgetting -/
def isJunk : Value → Bool
  | .complex .f32 0 0 => true
  | _ => false
theorem isJunk_eq {v : Value} (h : isJunk v = true) : v = junk := by
  unfold isJunk at h
  split at h
  · rfl
  · cases h
/-- The value names nothing from lo on. -/
def smallL (f : Value → Bool) : List Value → Bool
  | [] => true
  | v :: r => f v && smallL f r
def small (lo : Nat) : Nat → Value → Bool
  | _, .bool _ => true
  | _, .int _ _ => true
  | _, .float _ _ => true
  | _, .string _ => true
  | _, .pointer none => true
  | _, .pointer (some a) => decide (a.block < lo)
  | _, .slice none _ _ => true
  | _, .slice (some a) _ _ => decide (a.block < lo)
  | _, .map none => true
  | _, .map (some b) => decide (b < lo)
  | _, .nilFunc => true
  | _, .nilIface => true
  | n + 1, .func (.func _) a b => smallL (small lo n) a.toList && smallL (small lo n) b.toList
  | n + 1, .func (.yield l) a b => decide (l < lo) && smallL (small lo n) a.toList && smallL (small lo n) b.toList
  | n + 1, .iface _ v => small lo n v
  | n + 1, .agg a => smallL (small lo n) a.toList
  | n + 1, .tuple a => smallL (small lo n) a.toList
  | _, _ => false

theorem smallL_rel {φ' : Ren} {f : Value → Bool} (hf : ∀ v v', f v = true → VRel φ' v v' → VRel φ v v') : ∀ {xs ys : List Value}, smallL f xs = true → LRel φ' xs ys → LRel φ xs ys
  | [], [], _, _ => trivial
  | x :: xs, y :: ys, h, hr => by
    simp only [smallL, Bool.and_eq_true] at h
    exact ⟨hf x y h.1 hr.1, smallL_rel hf h.2 hr.2⟩
  | [], _ :: _, _, h => h.elim
  | _ :: _, [], _, h => h.elim

theorem small_rel {φ' : Ren} {lo : Nat} (hφ : ∀ b, b < lo → φ' b = φ b) : ∀ (n : Nat) (v v' : Value), small lo n v = true → VRel φ' v v' → VRel φ v v' := by
  have base : ∀ (n : Nat) (v v' : Value), (match v with | .func .. => False | .iface .. => False | .agg _ => False | .tuple _ => False | _ => True) → small lo n v = true → VRel φ' v v' → VRel φ v v' := by
    intro n v v' hv hs hr
    cases hr with
    | bool b => exact .bool b
    | int k n => exact .int k n
    | float k n => exact .float k n
    | str s => exact .str s
    | ptrN => exact .ptrN
    | ptr b o L h => simp only [small, decide_eq_true_eq] at hs; exact .ptr b o L (by rw [← hφ b hs]; exact h)
    | slN n c => exact .slN n c
    | sl b o n c L h hc => simp only [small, decide_eq_true_eq] at hs; exact .sl b o n c L (by rw [← hφ b hs]; exact h) hc
    | slO b o n c c' L h hc hn hl => simp only [small, decide_eq_true_eq] at hs; exact .slO b o n c c' L (by rw [← hφ b hs]; exact h) hc hn hl
    | slE b o c a' L h hc => simp only [small, decide_eq_true_eq] at hs; exact .slE b o c a' L (by rw [← hφ b hs]; exact h) hc
    | mapN => exact .mapN
    | map r L h => simp only [small, decide_eq_true_eq] at hs; exact .map r L (by rw [← hφ r hs]; exact h)
    | nilFunc => exact .nilFunc
    | nilIface => exact .nilIface
    | func => exact hv.elim
    | iface => exact hv.elim
    | agg => exact hv.elim
    | tuple => exact hv.elim
  intro n
  induction n with
  | zero =>
    intro v v' hs hr
    cases v with
    | func f a b => cases f <;> simp [small] at hs
    | iface t u => simp [small] at hs
    | agg a => simp [small] at hs
    | tuple a => simp [small] at hs
    | _ => exact base 0 _ v' trivial hs hr
  | succ n ih =>
    intro v v' hs hr
    cases v with
    | func f a b =>
      obtain ⟨fn', ys, us, rfl, hf, h1, h2⟩ := hr.func_inv
      cases hf with
      | func f =>
        simp only [small, Bool.and_eq_true] at hs
        exact .func' (.func f) (smallL_rel ih hs.1 h1) (smallL_rel ih hs.2 h2)
      | yield l L hl =>
        simp only [small, Bool.and_eq_true, decide_eq_true_eq] at hs
        exact .func' (.yield l L (by rw [← hφ l hs.1.1]; exact hl)) (smallL_rel ih hs.1.2 h1) (smallL_rel ih hs.2 h2)
      | _ => simp [small] at hs
    | iface t u =>
      cases hr with
      | iface t v v' h => exact .iface t _ _ (ih _ _ hs h)
    | agg a =>
      obtain ⟨ys, rfl, hl⟩ := hr.agg_inv
      exact .agg' (smallL_rel ih hs hl)
    | tuple a =>
      obtain ⟨ys, rfl, hl⟩ := hr.tuple_inv
      exact .tuple' (smallL_rel ih hs hl)
    | _ => exact base (n + 1) _ v' trivial hs hr


/-! ### Equality of values, as far as it is asked -/
def keq (a b : IntKind) : Bool := match a, b with
  | .i8, .i8 | .i16, .i16 | .i32, .i32 | .i64, .i64 | .u8, .u8 | .u16, .u16 | .u32, .u32 | .u64, .u64 => true
  | _, _ => false
theorem keq_eq {a b : IntKind} (h : keq a b = true) : a = b := by cases a <;> cases b <;> first | rfl | simp [keq] at h
def ieq : Int → Int → Bool
  | .ofNat a, .ofNat b => a == b
  | .negSucc a, .negSucc b => a == b
  | _, _ => false
theorem ieq_eq {a b : Int} (h : ieq a b = true) : a = b := by
  cases a <;> cases b <;> simp [ieq] at h <;> simp [h]
def adeq : Option Addr → Option Addr → Bool
  | none, none => true
  | some ⟨b, o, none⟩, some ⟨c, p, none⟩ => b == c && o == p
  | _, _ => false
theorem adeq_eq {a b : Option Addr} (h : adeq a b = true) : a = b := by
  unfold adeq at h
  split at h
  · rfl
  · simp at h; obtain ⟨rfl, rfl⟩ := h; rfl
  · cases h
def fneq : Fn → Fn → Bool
  | .func a, .func b => a == b
  | .yield a, .yield b => a == b
  | _, _ => false
theorem fneq_eq {a b : Fn} (h : fneq a b = true) : a = b := by
  unfold fneq at h
  split at h
  · simp at h; rw [h]
  · simp at h; rw [h]
  · cases h
def beqs : List UInt8 → List UInt8 → Bool
  | [], [] => true
  | a :: x, b :: y => a.toNat == b.toNat && beqs x y
  | _, _ => false
theorem beqs_eq : ∀ {a b : List UInt8}, beqs a b = true → a = b
  | [], [], _ => rfl
  | a :: x, b :: y, h => by
    simp [beqs] at h
    rw [beqs_eq h.2, UInt8.toNat_inj.1 h.1]
  | [], _ :: _, h => by simp [beqs] at h
  | _ :: _, [], h => by simp [beqs] at h
def leqBy (f : Value → Value → Bool) : List Value → List Value → Bool
  | [], [] => true
  | a :: x, b :: y => f a b && leqBy f x y
  | _, _ => false
theorem leqBy_eq {f : Value → Value → Bool} (hf : ∀ a b, f a b = true → a = b) : ∀ {x y : List Value}, leqBy f x y = true → x = y
  | [], [], _ => rfl
  | a :: x, b :: y, h => by
    simp [leqBy] at h
    rw [hf a b h.1, leqBy_eq hf h.2]
  | [], _ :: _, h => by simp [leqBy] at h
  | _ :: _, [], h => by simp [leqBy] at h
def veq : Nat → Value → Value → Bool
  | _, .bool a, .bool b => a == b
  | _, .int k a, .int l b => keq k l && ieq a b
  | _, .pointer a, .pointer b => adeq a b
  | _, .slice a n c, .slice b m d => adeq a b && n == m && c == d
  | _, .string a, .string b => beqs a.data.toList b.data.toList
  | _, .nilFunc, .nilFunc => true
  | _, .nilIface, .nilIface => true
  | _, .map none, .map none => true
  | _, .map (some a), .map (some b) => a == b
  | n + 1, .func f a b, .func g c d => fneq f g && leqBy (veq n) a.toList c.toList && leqBy (veq n) b.toList d.toList
  | n + 1, .iface t a, .iface u b => t == u && veq n a b
  | n + 1, .agg a, .agg b => leqBy (veq n) a.toList b.toList
  | n + 1, .tuple a, .tuple b => leqBy (veq n) a.toList b.toList
  | _, _, _ => false
theorem veq_eq : ∀ (n : Nat) (a b : Value), veq n a b = true → a = b := by
  intro n
  induction n with
  | zero =>
    intro a b h
    unfold veq at h
    split at h
    · simp at h; rw [h]
    · simp at h; rw [keq_eq h.1, ieq_eq h.2]
    · rw [adeq_eq h]
    · simp at h; rw [adeq_eq h.1.1, h.1.2, h.2]
    · rename_i x y
      have := beqs_eq h
      cases x; cases y
      simp only at this
      rw [Array.toList_inj.1 this]
    · rfl
    · rfl
    · rfl
    · simp at h; rw [h]
    all_goals first | omega | cases h
  | succ n ih =>
    intro a b h
    unfold veq at h
    split at h
    · simp at h; rw [h]
    · simp at h; rw [keq_eq h.1, ieq_eq h.2]
    · rw [adeq_eq h]
    · simp at h; rw [adeq_eq h.1.1, h.1.2, h.2]
    · rename_i x y
      have := beqs_eq h
      cases x; cases y
      simp only at this
      rw [Array.toList_inj.1 this]
    · rfl
    · rfl
    · rfl
    · simp at h; rw [h]
    · rename_i m f x y g c d hm
      cases hm
      simp only [Bool.and_eq_true] at h
      rw [fneq_eq h.1.1, Array.toList_inj.1 (leqBy_eq ih h.1.2), Array.toList_inj.1 (leqBy_eq ih h.2)]
    · rename_i m t x u y hm
      cases hm
      simp at h
      rw [h.1, ih _ _ h.2]
    · rename_i m x y hm
      cases hm
      rw [Array.toList_inj.1 (leqBy_eq ih h)]
    · rename_i m x y hm
      cases hm
      rw [Array.toList_inj.1 (leqBy_eq ih h)]
    · cases h


/-! ### A loop over a map -/
def jT (J : List Nat) : Nat → List Value → List Value
  | _, [] => []
  | i, v :: r => (bif J.any (Nat.beq i) then junk else v) :: jT J (i + 1) r
theorem jT_len (J : List Nat) : ∀ (l : List Value) (i : Nat), (jT J i l).length = l.length
  | [], _ => rfl
  | _ :: r, i => by simp [jT, jT_len J r]
theorem jT_get (J : List Nat) : ∀ {l : List Value} {i j : Nat} {u : Value}, (jT J i l)[j]? = some u → u = junk ∨ l[j]? = some u
  | [], _, _, _, h => by simp [jT] at h
  | v :: r, i, 0, u, h => by
    simp only [jT, List.getElem?_cons_zero, Option.some.injEq] at h
    cases hb : J.any (Nat.beq i) with
    | true => rw [hb] at h; exact .inl h.symm
    | false => rw [hb] at h; exact .inr (by simp only [List.getElem?_cons_zero]; exact congrArg some h)
  | v :: r, i, j + 1, u, h => by
    simp only [jT, List.getElem?_cons_succ] at h ⊢
    exact jT_get J h
theorem jT_rel {J : List Nat} {tm : List Value} {ts : Array Value} (h : TRel φ tm ts) : TRel φ (jT J 0 tm) ts :=
  ⟨by rw [jT_len]; exact h.1, fun i v hv => (jT_get J hv).elim .inl (h.2 i v)⟩
def dstC : Code → List Nat
  | .seq a b => dstC a ++ dstC b
  | .cond _ a b => dstC a ++ dstC b
  | .block _ c => dstC c
  | .loop c => dstC c
  | .scope c => dstC c
  | .region _ ops _ => ops.toList.filterMap (·.dst)
  | .rangeFunc _ ps a b => ps.toList ++ (dstC a ++ dstC b)
  | _ => []
/-- The temporaries are as they were. -/
def chkT (lo : Nat) : List Value → List Value → Bool
  | [], [] => true
  | p :: ps, v :: vs => (isJunk p || (small lo 5 p && veq 6 p v)) && chkT lo ps vs
  | _, _ => false
theorem chkT_len {lo : Nat} : ∀ {ps vs : List Value}, chkT lo ps vs = true → ps.length = vs.length
  | [], [], _ => rfl
  | _ :: _, _ :: _, h => by
    simp only [chkT, Bool.and_eq_true] at h
    simp [chkT_len h.2]
  | [], _ :: _, h => by simp [chkT] at h
  | _ :: _, [], h => by simp [chkT] at h
theorem chkT_get {lo j : Nat} {p : Value} : ∀ {ps vs : List Value}, chkT lo ps vs = true → ps[j]? = some p → p = junk ∨ (small lo 5 p = true ∧ vs[j]? = some p)
  | [], [], _, hp => by simp at hp
  | q :: ps, v :: vs, h, hp => by
    simp only [chkT, Bool.and_eq_true, Bool.or_eq_true] at h
    cases j with
    | zero =>
      simp only [List.getElem?_cons_zero, Option.some.injEq] at hp ⊢
      subst hp
      rcases h.1 with h1 | h1
      · exact .inl (isJunk_eq h1)
      · exact .inr ⟨h1.1, (veq_eq _ _ _ h1.2).symm⟩
    | succ j => simpa using chkT_get (j := j) h.2 (by simpa using hp)
  | [], _ :: _, h, _ => by simp [chkT] at h
  | _ :: _, [], h, _ => by simp [chkT] at h
def eqB : Blk → Blk → Bool
  | .cells a x, .cells b y => leqBy (veq 6) a b && (x == y)
  | .defd, .defd => true
  | .hid, .hid => true
  | _, _ => false
theorem eqB_eq {a b : Blk} (h : eqB a b = true) : a = b := by
  unfold eqB at h
  split at h
  · simp only [Bool.and_eq_true, beq_iff_eq] at h; rw [leqBy_eq (veq_eq 6) h.1, h.2]
  · rfl
  · rfl
  · cases h
def smallB (lo : Nat) : Blk → Bool
  | .cells cs _ => smallL (small lo 5) cs
  | .defd | .hid => true
  | _ => false
def chkH (lo : Nat) (H' : Hp) : Hp → Bool
  | [] => true
  | (b, k) :: r => (Nat.blt b lo && smallB lo k && (match H'.get b with | some k' => eqB k k' | none => false)) && chkH lo H' r
theorem chkH_get {lo b : Nat} {k : Blk} {H' : Hp} : ∀ {H : Hp}, chkH lo H' H = true → H.get b = some k → b < lo ∧ smallB lo k = true ∧ H'.get b = some k
  | [], _, h => by simp [Hp.get_nil] at h
  | (c, x) :: r, hc, h => by
    simp only [chkH, Bool.and_eq_true] at hc
    by_cases hb : c = b
    · subst hb
      simp only [Hp.get_cons, beq_self_eq_true, if_true, Option.some.injEq] at h
      subst h
      obtain ⟨⟨⟨h1, h2⟩, h3⟩, _⟩ := hc
      split at h3
      · rename_i k' hk'
        exact ⟨by unfold Nat.blt at h1; exact Nat.le_of_ble_eq_true h1, h2, by rw [hk', eqB_eq h3]⟩
      · cases h3
    · simp [Hp.get_cons, hb] at h
      exact chkH_get hc.2 h
theorem smallL_get {f : Value → Bool} {j : Nat} {v : Value} : ∀ {cs : List Value}, smallL f cs = true → cs[j]? = some v → f v = true
  | [], _, h => by simp at h
  | x :: cs, hs, h => by
    simp only [smallL, Bool.and_eq_true] at hs
    cases j with
    | zero => simp at h; subst h; exact hs.1
    | succ j => simp at h; exact smallL_get hs.2 h
/-- What a round that leaves nothing behind leaves. -/
theorem good_back {φ' : Ren} {lo : Nat} {Hb H' : Hp} (hφ : ∀ b, b < lo → φ' b = φ b) (hc : chkH lo H' Hb = true) (g : Good φ' H' K w) : Good φ Hb K w := by
  refine ⟨fun b k hb => ?_, fun b c k k' L L' hb hc' hne hkr h1 h2 => ?_, fun b k L hb hkr h1 => ?_, g.kin⟩
  · obtain ⟨h1, h2, h3⟩ := chkH_get hc hb
    obtain ⟨L, hL, hbr⟩ := g.rel b k h3
    refine ⟨L, by rw [← hφ b h1]; exact hL, ?_⟩
    cases k with
    | cells cs ro =>
      obtain ⟨arr, el, fr, e1, e2, e3⟩ := hbr
      refine ⟨arr, el, fr, e1, fun j v hv => ?_, e3⟩
      obtain ⟨v', f1, f2⟩ := e2 j v hv
      exact ⟨v', f1, small_rel hφ 5 v v' (smallL_get h2 hv) f2⟩
    | defd => exact hbr
    | hid => exact hbr
    | _ => simp [smallB] at h2
  · obtain ⟨a1, a2, a3⟩ := chkH_get hc hb
    obtain ⟨b1, b2, b3⟩ := chkH_get hc hc'
    exact g.sep b c k k' L L' a3 b3 hne hkr (by rw [hφ b a1]; exact h1) (by rw [hφ c b1]; exact h2)
  · obtain ⟨a1, a2, a3⟩ := chkH_get hc hb
    exact g.prot b k L a3 hkr (by rw [hφ b a1]; exact h1)
theorem trel_back {φ' : Ren} {lo : Nat} {tb tm : List Value} {ts : Array Value} (hφ : ∀ b, b < lo → φ' b = φ b) (hc : chkT lo tb tm = true) (h : TRel φ' tm ts) : TRel φ tb ts := by
  refine ⟨by rw [chkT_len hc]; exact h.1, fun i v hv => ?_⟩
  rcases chkT_get hc hv with h0 | ⟨h1, h2⟩
  · exact .inl h0
  · rcases h.2 i v h2 with h0 | ⟨v', f1, f2⟩
    · exact .inl h0
    · exact .inr ⟨v', f1, small_rel hφ 5 v v' h1 f2⟩

structure MLoop where
  i1 : Nat
  ops1 : Array Oper
  o1 : Oper
  tail1 : List Oper
  it : Nat
  sN : Nat
  ok : Operand
  bx : Nat
  bb : Nat
  i2 : Nat
  ops2 : Array Oper
  o2 : Oper
  tail2 : List Oper
  sE : Nat
  rest : Code
structure MLoop.Of (S : MLoop) (c : Code) : Prop where
  code : c = .seq (.region S.i1 S.ops1 false) (.seq (.cond S.ok .skip (.exit S.bx)) (.block S.bb (.seq (.region S.i2 S.ops2 false) S.rest)))
  l1 : S.ops1.toList = S.o1 :: S.tail1
  l2 : S.ops2.toList = S.o2 :: S.tail2
  op1 : S.o1.op = .next (.tmp S.it) false
  op2 : S.o2.op = .entry (.tmp S.it)
  d1 : S.o1.dst = some S.sN
  d2 : S.o2.dst = some S.sE
  g1 : S.o1.guard = none
  g2 : S.o2.guard = none
def mapShape (c : Code) : Option MLoop := match c with
  | .seq (.region i1 ops1 false) (.seq (.cond ok .skip (.exit bx)) (.block bb (.seq (.region i2 ops2 false) rest))) => match ops1.toList, ops2.toList with
    | o1 :: tail1, o2 :: tail2 => match o1.op, o2.op with
      | .next (.tmp it) false, .entry (.tmp it2) => match o1.dst, o2.dst with
        | some sN, some sE => if Nat.beq it it2 && o1.guard.isNone && o2.guard.isNone then some ⟨i1, ops1, o1, tail1, it, sN, ok, bx, bb, i2, ops2, o2, tail2, sE, rest⟩ else none
        | _, _ => none
      | _, _ => none
    | _, _ => none
  | _ => none
theorem mapShape_of {c : Code} {S : MLoop} (h : mapShape c = some S) : S.Of c := by
  unfold mapShape at h
  split at h
  case h_2 => cases h
  split at h
  case h_2 => cases h
  rename_i e1 e2
  split at h
  case h_2 => cases h
  rename_i e3 e4
  split at h
  case h_2 => cases h
  rename_i e5 e6
  split at h
  case isFalse => cases h
  rename_i e7
  simp only [Bool.and_eq_true, Option.isNone_iff_eq_none] at e7
  have := Nat.eq_of_beq_eq_true e7.1.1
  subst this
  cases h
  exact ⟨rfl, e1, e2, e3, e4, e5, e6, e7.1.2, e7.2⟩

/-- What is evaluated for an entry. -/
structure Round (P : Program) (r : Option Nat) (S : MLoop) (tb : List Value) (Hb : Hp) (nx top : Nat) (ib : Nat) (k v : Value) : Prop where
  round : ∃ t1 H1 n1 t2 H2 n2 R, OpsOk P r S.ops1 (List.range' 1 S.tail1.length) (putT tb (some S.sN) (.tuple #[.bool true, k, v])) Hb nx t1 H1 n1 ∧ opv t1 S.ok = some (.bool true) ∧ opv t1 (.tmp S.it) = some (.pointer (some ⟨ib, 0, none⟩)) ∧
    OpsOk P r S.ops2 (List.range' 1 S.tail2.length) (putT t1 (some S.sE) (.tuple #[k, v])) H1 n1 t2 H2 n2 ∧ CodeOk P r S.rest t2 [] H2 n2 R ∧ (R.inBlock S.bb).e = .normal ∧ R.nx ≤ top ∧ chkT nx tb R.tm = true ∧ chkH nx R.H Hb = true ∧ R.ds = []

theorem inBlock_same (i : Nat) (R : Res) : (R.inBlock i).tm = R.tm ∧ (R.inBlock i).H = R.H ∧ (R.inBlock i).ds = R.ds ∧ (R.inBlock i).nx = R.nx := by
  unfold Res.inBlock
  split <;> (try split) <;> exact ⟨rfl, rfl, rfl, rfl⟩
theorem good_setBlock {Hb : Hp} {K2 : Nat → Prop} (g : Good φ Hb K2 w) {r : Nat} (o : Obj) (hne : ∀ b k L, Hb.get b = some k → φ b = some L → L.blk ≠ r) : Good φ Hb K2 (ChangeMaps.setBlock w r o) := by
  have hget : ∀ c, c ≠ r → (ChangeMaps.setBlock w r o).heap[c]? = w.heap[c]? := fun c hc => by
    show (w.heap.setIfInBounds r o)[c]? = _
    rw [Array.getElem?_setIfInBounds, if_neg (fun e => hc e.symm)]
  refine ⟨fun b k hb => ?_, g.sep, g.prot, fun c hc => ?_⟩
  · obtain ⟨L, hL, hbr⟩ := g.rel b k hb
    exact ⟨L, hL, hbr.congr (hget _ (hne b k L hb hL))⟩
  · show c < (w.heap.setIfInBounds r o).size
    simpa using g.kin c hc
theorem range_succ' (n : Nat) : List.range (n + 1) = 0 :: List.range' 1 n := by
  rw [List.range_eq_range', List.range'_succ]

theorem loop_map {r : Option Nat} {c : Code} {S : MLoop} (hS : S.Of c) {tm tb : List Value} {H Hb : Hp} {nx top ib mb cl : Nat} {es : List (Value × Value × Nat)}
    (hib : H.get ib = some (.iter mb cl)) (hmb : H.get mb = some (.mp es cl)) (hb : ∀ b k, Hb.get b = some k → H.get b = some k ∧ b ≠ ib ∧ b ≠ mb) (htb : ∀ φ ts, TRel φ tm ts → TRel φ tb ts)
    (hit : opv tb (.tmp S.it) = some (.pointer (some ⟨ib, 0, none⟩))) (hle : nx ≤ top)
    (hround : ∀ k v b, (k, v, b) ∈ es → Round P r S tb Hb nx top ib k v)
    {tF : List Value} {HF : Hp} {nF : Nat} (hF : OpsOk P r S.ops1 (List.range' 1 S.tail1.length) (putT tb (some S.sN) (.tuple #[.bool false])) Hb nx tF HF nF) (hnF : nF ≤ top) (hok : opv tF S.ok = some (.bool false)) :
    LoopOk P r c tm [] H nx ⟨.exit S.bx, tF, [], HF, top⟩ := by
  refine ⟨hle, es.length + 1, fun φ w K a rc g hf ht hd hr => ?_⟩
  have hne : ib ≠ mb := by rintro rfl; rw [hib] at hmb; cases hmb
  obtain ⟨LI, hLI, hbI⟩ := g.rel ib _ hib
  obtain ⟨LM, hLM, hbM⟩ := g.rel mb _ hmb
  obtain ⟨M, hM, hoff, hiter⟩ := hbI
  rw [hLM] at hM; cases hM
  obtain ⟨xs, hmap, hmr, hborn⟩ := hbM
  obtain ⟨⟨ys, hperm, herel⟩, _, _⟩ := hmr
  have hlen : xs.size = es.length := by
    have h1 : ∀ {es : List (Value × Value × Nat)} {ys : List MapEntry}, ERel φ es ys → es.length = ys.length := by
      intro es
      induction es with
      | nil => intro ys h; cases ys with
        | nil => rfl
        | cons y ys => exact h.elim
      | cons e es ih => intro ys h; obtain ⟨k, v, b⟩ := e; cases ys with
        | nil => exact h.elim
        | cons y ys => simp [ih h.2.2]
    rw [h1 herel, hperm.length_eq]; simp
  have hent : ∀ e ∈ xs.toList, ∃ k v b, (k, v, b) ∈ es ∧ e.key = k ∧ VRel φ v e.val := by
    intro e he
    have he2 : e ∈ ys := hperm.mem_iff.2 he
    have h1 : ∀ {es : List (Value × Value × Nat)} {ys : List MapEntry}, ERel φ es ys → ∀ e ∈ ys, ∃ k v b, (k, v, b) ∈ es ∧ e.key = k ∧ VRel φ v e.val := by
      intro es
      induction es with
      | nil => intro ys h e he; cases ys with
        | nil => cases he
        | cons y ys => exact h.elim
      | cons x es ih => intro ys h e he; obtain ⟨k, v, b⟩ := x; cases ys with
        | nil => exact h.elim
        | cons y ys =>
          rcases List.mem_cons.1 he with rfl | he
          · exact ⟨k, v, b, List.mem_cons_self, h.1, h.2.1⟩
          · obtain ⟨k', v', b', h1, h2, h3⟩ := ih h.2.2 e he
            exact ⟨k', v', b', List.mem_cons_of_mem _ h1, h2, h3⟩
    exact h1 herel e he2
  have hkey : ∀ k v b, (k, v, b) ∈ es → ∀ φ', φ.le φ' → VRel φ' k k := by
    intro k v b hk φ' _
    have h1 : ∀ {es : List (Value × Value × Nat)} {ys : List MapEntry}, ERel φ es ys → (k, v, b) ∈ es → ∃ e ∈ ys, e.key = k := by
      intro es
      induction es with
      | nil => intro ys h hk; cases hk
      | cons x es ih => intro ys h hk; obtain ⟨k0, v0, b0⟩ := x; cases ys with
        | nil => exact h.elim
        | cons y ys =>
          rcases List.mem_cons.1 hk with hk | hk
          · cases hk; exact ⟨y, List.mem_cons_self, h.1⟩
          · obtain ⟨e, he, hk⟩ := ih h.2.2 hk
            exact ⟨e, List.mem_cons_of_mem _ he, hk⟩
    obtain ⟨e, he, rfl⟩ := h1 herel hk
    obtain ⟨kk, hkk⟩ := ‹∃ k, KindK k xs.toList›
    obtain ⟨n, hn⟩ := hkk e (hperm.mem_iff.1 he)
    rw [hn]; exact .int _ _
  let K2 : Nat → Prop := fun c => K c ∨ c = LI.blk ∨ c = LM.blk
  have hsepI : ∀ b k L, Hb.get b = some k → φ b = some L → L.blk ≠ LI.blk := by
    intro b k L hb1 hL e
    obtain ⟨h1, h2, h3⟩ := hb b k hb1
    exact g.sep ib b _ k LI L hib h1 (fun e => h2 e.symm) rfl hLI hL e.symm
  have hsepM : ∀ b k L, Hb.get b = some k → φ b = some L → L.blk ≠ LM.blk := by
    intro b k L hb1 hL e
    obtain ⟨h1, h2, h3⟩ := hb b k hb1
    exact g.sep mb b _ k LM L hmb h1 (fun e => h3 e.symm) rfl hLM hL e.symm
  have hIM : LI.blk ≠ LM.blk := g.sep ib mb _ _ LI LM hib hmb hne rfl hLI hLM
  have hIK : ¬ K LI.blk := g.prot ib _ LI hib rfl hLI
  have g2 : Good φ Hb K2 w := by
    refine ⟨fun b k h1 => g.rel b k (hb b k h1).1, fun b c k k' L L' h1 h2 => g.sep b c k k' L L' (hb b k h1).1 (hb c k' h2).1, fun b k L h1 hk hL hK => ?_, fun c hc => ?_⟩
    · rcases hK with hK | hK | hK
      · exact g.prot b k L (hb b k h1).1 hk hL hK
      · exact hsepI b k L h1 hL hK
      · exact hsepM b k L h1 hL hK
    · rcases hc with hK | rfl | rfl
      · exact g.kin c hK
      · exact (Array.getElem?_eq_some_iff.1 hiter).1
      · exact (Array.getElem?_eq_some_iff.1 hmap).1
  have hhold : ∀ x ∈ xs.toList, x.born < cl := hborn.1
  have hLI0 : ∀ φ' ts, φ.le φ' → TRel φ' tb ts → True := fun _ _ _ _ => trivial
  have hptr : ∀ φ' (t : List Value) (a : Act), φ.le φ' → TRel φ' t a.tmps → opv t (.tmp S.it) = some (.pointer (some ⟨ib, 0, none⟩)) → a.eval (.tmp S.it) = .pointer (some ⟨LI.blk, 0, none⟩) := by
    intro φ' t a hle ht ho
    have hv := opv_rel ht ho
    generalize a.eval (.tmp S.it) = u at hv
    cases hv with
    | ptr _ _ L hL =>
      have := hle _ _ hLI
      rw [hL] at this; cases this
      rw [hoff]
  have hbool : ∀ φ' (t : List Value) (a : Act) (x : Operand) (b : Bool), TRel φ' t a.tmps → opv t x = some (.bool b) → a.eval x = .bool b := by
    intro φ' t a x b ht ho
    have hv := opv_rel ht ho
    generalize a.eval x = u at hv
    cases hv; rfl
  obtain ⟨hcode, l1, l2, op1, op2, d1, d2, q1, q2⟩ := hS
  have hz1 : S.ops1.size = S.tail1.length + 1 := by rw [← Array.length_toList, l1]; rfl
  have hz2 : S.ops2.size = S.tail2.length + 1 := by rw [← Array.length_toList, l2]; rfl
  have h01 : S.ops1[0]? = some S.o1 := by rw [← Array.getElem?_toList, l1]; rfl
  have h02 : S.ops2[0]? = some S.o2 := by rw [← Array.getElem?_toList, l2]; rfl
  have step : ∀ (j : Nat), (∀ (a : Act) (w' : World) (seen : Array Nat), (leftOf xs seen).size < j → Good φ Hb K2 w' → w'.heap[LI.blk]? = some (.mapIter (some LM.blk) cl seen cl) → w'.heap[LM.blk]? = some (.map xs cl) →
      TRel φ tb a.tmps → a.defers = [] → Went K w w' → Code.roundsIn (fw rc) 0 P c (Post φ K w nx ⟨.exit S.bx, tF, [], HF, top⟩) j a w') →
      ∀ (a : Act) (w' : World) (seen : Array Nat), (leftOf xs seen).size ≤ j → Good φ Hb K2 w' → w'.heap[LI.blk]? = some (.mapIter (some LM.blk) cl seen cl) → w'.heap[LM.blk]? = some (.map xs cl) →
      TRel φ tb a.tmps → a.defers = [] → Went K w w' → Code.roundsIn (fw rc) 0 P c (Post φ K w nx ⟨.exit S.bx, tF, [], HF, top⟩) (j + 1) a w' := by
    intro j IH a w' seen hj g' hI hMp ht' hd' hw'
    rw [roundsIn_succ]
    rw [show c.wpIn (fw rc) 0 P (Exit.then (Code.roundsIn (fw rc) 0 P c (Post φ K w nx ⟨.exit S.bx, tF, [], HF, top⟩) j) (Post φ K w nx ⟨.exit S.bx, tF, [], HF, top⟩)) a w' = (Code.seq (.region S.i1 S.ops1 false) (.seq (.cond S.ok .skip (.exit S.bx)) (.block S.bb (.seq (.region S.i2 S.ops2 false) S.rest)))).wpIn (fw rc) 0 P (Exit.then (Code.roundsIn (fw rc) 0 P c (Post φ K w nx ⟨.exit S.bx, tF, [], HF, top⟩) j) (Post φ K w nx ⟨.exit S.bx, tF, [], HF, top⟩)) a w' by rw [← hcode]]
    refine wpIn_seq (wpIn_region ?_)
    rw [hz1, range_succ']
    simp only [wpOpsIn, h01]
    rw [if_pos (wantedA_ok (b := true) ht' (by unfold wantedA; rw [q1]))]
    refine ⟨about_fw, ?_⟩
    rw [Oper.semAt_eq _ _ _ (fun c hc => by rw [op1] at hc; cases hc)]
    have hev := hptr φ tb a (Ren.le_refl φ) ht' hit
    have hx : ∀ v w2, (Instr.next (.pointer (some ⟨LI.blk, 0, none⟩)) false S.o1.type).run P w' = .ok v w2 → (execOp a.eval S.o1).run P w' = .ok (.value v) w2 := fun v w2 h => by
      unfold execOp
      simp only [op1, hev, Sem.run_bind, h, Result.andThen, Sem.run_pure]
    have hK : ∀ {φ' : Ren} {H' : Hp} {w' : World}, Good φ' H' K2 w' → Good φ' H' K w' := fun g => ⟨g.rel, g.sep, fun b k L h1 h2 h3 h4 => g.prot b k L h1 h2 h3 (.inl h4), fun c hc => g.kin c (.inl hc)⟩
    have hW : ∀ {w1 w2 : World}, Went K2 w1 w2 → Went K w1 w2 := fun h => ⟨h.os, h.tape, h.output, h.size, fun c hc => h.kept c (.inl hc)⟩
    rcases run_next_at (P := P) w' S.o1.type LI.blk LM.blk cl cl seen xs cl hI hMp hhold (Nat.le_refl _) with ⟨_, hrun⟩ | ⟨e, he, w1, hw1, hrun⟩
    · rw [hx _ _ hrun]
      refine hF.2 φ w' K2 (a.put S.o1.dst (.tuple #[.bool false])) rc _ g' (hf.left hnF) (by rw [d1]; exact putT_rel ht' _ (.tuple' ⟨.bool _, trivial⟩)) hr fun φ1 a1 w2 x1 x2 x3 x4 x5 => ?_
      refine wpIn_seq (wpIn_cond (hbool _ _ _ _ _ x3 hok) (wpIn_exit ?_))
      refine ⟨rfl, φ1, ⟨x1.1, fun b hb => x1.2 b ?_⟩, hK x2, x3, ?_, hw'.trans (hW x5)⟩
      · rcases hb with hb | hb
        · exact .inl hb
        · exact .inr (Nat.le_trans hnF hb)
      · rw [x4, put_defers, hd']; trivial
    · rw [hx _ _ hrun]
      obtain ⟨hemem, hnseen⟩ := mem_left he
      obtain ⟨k, v, b, hkv, hek, hvr⟩ := hent e hemem
      obtain ⟨t1, H1, n1, t2, H2, n2, R, r1, r2, r3, r4, r5, r6, r7, r8, r9, r10⟩ := (hround k v b hkv).round
      have hkr : ∀ φ', φ.le φ' → VRel φ' k e.key := fun φ' h => by rw [hek]; exact hkey k v b hkv φ' h
      have gw1 : Good φ Hb K2 w1 := by rcases hw1 with rfl | rfl <;> first | exact g' | exact g'.drew
      have hw1w : Went K w' w1 := by rcases hw1 with rfl | rfl <;> first | exact Went.refl _ _ | exact Went.drew _ _
      have hh1 : w1.heap = w'.heap := by rcases hw1 with rfl | rfl <;> rfl
      have hIlt : LI.blk < w1.heap.size := by rw [hh1]; exact (Array.getElem?_eq_some_iff.1 hI).1
      have g2' := good_setBlock gw1 (.mapIter (some LM.blk) cl (seen.push e.born) cl) hsepI
      have hw2 : Went K w1 (ChangeMaps.setBlock w1 LI.blk (.mapIter (some LM.blk) cl (seen.push e.born) cl)) := by
        refine ⟨rfl, rfl, rfl, ?_, fun c hc => ?_⟩
        · show _ ≤ (w1.heap.setIfInBounds _ _).size
          simp
        · show (w1.heap.setIfInBounds _ _)[c]? = _
          rw [Array.getElem?_setIfInBounds, if_neg (fun (h : LI.blk = c) => hIK (by rw [h]; exact hc))]
      have hI2 : (ChangeMaps.setBlock w1 LI.blk (.mapIter (some LM.blk) cl (seen.push e.born) cl)).heap[LI.blk]? = some (.mapIter (some LM.blk) cl (seen.push e.born) cl) := by
        show (w1.heap.setIfInBounds _ _)[LI.blk]? = _
        rw [Array.getElem?_setIfInBounds]; simp [hIlt]
      have hM2 : (ChangeMaps.setBlock w1 LI.blk (.mapIter (some LM.blk) cl (seen.push e.born) cl)).heap[LM.blk]? = some (.map xs cl) := by
        show (w1.heap.setIfInBounds _ _)[LM.blk]? = _
        rw [Array.getElem?_setIfInBounds, if_neg hIM, hh1]; exact hMp
      generalize ChangeMaps.setBlock w1 LI.blk (.mapIter (some LM.blk) cl (seen.push e.born) cl) = w2 at g2' hw2 hI2 hM2
      have n12 : n1 ≤ n2 := r4.1
      have n2R : n2 ≤ R.nx := r5.1
      have hfr1 : Fresh φ nx n1 := hf.left (by show n1 ≤ top; omega)
      refine r1.2 φ w2 K2 (a.put S.o1.dst (.tuple #[.bool true, e.key, e.val])) rc _ g2' hfr1 (by rw [d1]; exact putT_rel ht' _ (.tuple' ⟨.bool _, hkr φ (Ren.le_refl φ), hvr, trivial⟩)) hr fun φ1 a1 w3 x1 x2 x3 x4 x5 => ?_
      refine wpIn_seq (wpIn_cond (hbool _ _ _ _ _ x3 r2) (wpIn_skip ?_))
      refine wpIn_block (wpIn_seq (wpIn_region ?_))
      rw [hz2, range_succ']
      simp only [wpOpsIn, h02]
      rw [if_pos (wantedA_ok (b := true) x3 (by unfold wantedA; rw [q2]))]
      refine ⟨about_fw, ?_⟩
      rw [Oper.semAt_eq _ _ _ (fun c hc => by rw [op2] at hc; cases hc)]
      have hev2 := hptr φ1 t1 a1 x1.1 x3 r3
      have hI3 : w3.heap[LI.blk]? = some (.mapIter (some LM.blk) cl (seen.push e.born) cl) := by rw [x5.kept _ (.inr (.inl rfl))]; exact hI2
      have hM3 : w3.heap[LM.blk]? = some (.map xs cl) := by rw [x5.kept _ (.inr (.inr rfl))]; exact hM2
      have hrun2 := run_entry_at (P := P) w3 LI.blk LM.blk cl seen xs cl e hI3 hM3 hemem hborn.2
      have hx2 : (execOp a1.eval S.o2).run P w3 = .ok (.value (.tuple #[e.key, e.val])) w3 := by
        unfold execOp
        simp only [op2, hev2, Sem.run_bind, hrun2, Result.andThen, Sem.run_pure]
      rw [hx2]
      refine r4.2 φ1 w3 K2 (a1.put S.o2.dst (.tuple #[e.key, e.val])) rc _ x2 ((hf.left (show n2 ≤ top by omega)).right x1 r1.1) (by rw [d2]; exact putT_rel x3 _ (.tuple' ⟨hkr φ1 x1.1, hvr.mono x1.1, trivial⟩)) (hr.mono x1.1) fun φ2 a2 w4 y1 y2 y3 y4 y5 => ?_
      have hd2 : a2.defers = [] := by rw [y4, put_defers, x4, put_defers, hd']
      have e12 : Ext φ φ2 nx n2 := x1.trans y1 r1.1 n12
      refine wpIn_mono (r5.2 φ2 w4 K2 a2 rc y2 ((hf.left (show R.nx ≤ top from r7)).right e12 (Nat.le_trans r1.1 n12)) y3 (by rw [hd2]; trivial) ((hr.mono x1.1).mono y1.1)) ?_
      rintro ex a3 w5 ⟨rfl, φ3, z1, z2, z3, z4, z5⟩
      have e13 : Ext φ φ3 nx R.nx := e12.trans z1 (Nat.le_trans r1.1 n12) n2R
      have hφ : ∀ b, b < nx → φ3 b = φ b := fun b hb => e13.2 b (.inl hb)
      have fin : Code.roundsIn (fw rc) 0 P c (Post φ K w nx ⟨.exit S.bx, tF, [], HF, top⟩) j a3 w5 := by
        refine IH a3 w5 (seen.push e.born) (Nat.lt_of_lt_of_le (left_shrinks xs seen e he) hj) (good_back hφ r9 z2) ?_ ?_ (trel_back hφ r8 z3) ?_ ?_
        · rw [z5.kept _ (.inr (.inl rfl)), y5.kept _ (.inr (.inl rfl))]; exact hI3
        · rw [z5.kept _ (.inr (.inr rfl)), y5.kept _ (.inr (.inr rfl))]; exact hM3
        · rw [r10] at z4; revert z4; cases a3.defers <;> simp [DRel]
        · exact ((hw'.trans hw1w).trans hw2).trans (((hW x5).trans (hW y5)).trans (hW z5))
      revert r6
      unfold Res.inBlock
      unfold Exit.inBlock
      cases hE : R.e with
      | exit i =>
        dsimp only
        split
        · intro _; exact fin
        · intro h; rw [hE] at h; cases h
      | normal => intro _; exact fin
      | _ => intro h; dsimp only at h; rw [hE] at h; cases h
  have main : ∀ (j : Nat) (a : Act) (w' : World) (seen : Array Nat), (leftOf xs seen).size ≤ j → Good φ Hb K2 w' → w'.heap[LI.blk]? = some (.mapIter (some LM.blk) cl seen cl) → w'.heap[LM.blk]? = some (.map xs cl) →
      TRel φ tb a.tmps → a.defers = [] → Went K w w' → Code.roundsIn (fw rc) 0 P c (Post φ K w nx ⟨.exit S.bx, tF, [], HF, top⟩) (j + 1) a w' := by
    intro j
    induction j with
    | zero => exact step 0 (fun _ _ _ h => absurd h (Nat.not_lt_zero _))
    | succ j ih => exact step (j + 1) (fun a w' seen h => ih a w' seen (Nat.lt_succ_iff.1 h))
  refine main es.length a w #[] ?_ g2 hiter hmap (htb φ _ ht) ?_ (Went.refl _ _)
  · unfold leftOf
    have := Array.size_filter_le (xs := xs) (p := fun e => !(#[] : Array Nat).contains e.born)
    omega
  · revert hd; cases a.defers <;> simp [DRel]

/-! ### A frame around a loop -/
/-- Every block that is only read has an old name. -/
def roOld (H0 : Hp) : Hp → Bool
  | [] => true
  | (b, k) :: r => (k.rw || (H0.get b).isSome) && roOld H0 r
theorem roOld_get {H0 : Hp} {b : Nat} {k : Blk} : ∀ {H : Hp}, roOld H0 H = true → H.get b = some k → k.rw = false → ∃ k0, H0.get b = some k0
  | [], _, h, _ => by simp [Hp.get_nil] at h
  | (c, x) :: r, hr, h, hk => by
    simp only [roOld, Bool.and_eq_true, Bool.or_eq_true] at hr
    by_cases hc : c = b
    · subst hc
      simp [Hp.get_cons] at h; subst h
      rcases hr.1 with h1 | h1
      · rw [hk] at h1; cases h1
      · exact Option.isSome_iff_exists.1 h1
    · simp [Hp.get_cons, hc] at h; exact roOld_get hr.2 h hk

theorem roundsIn_mono {F : Fence} {n : Nat} {c : Code} {Q Q' : Exit → Act → World → Prop} (hq : ∀ e a w, Q e a w → Q' e a w) : ∀ (m : Nat) (a : Act) (w : World), Code.roundsIn F n P c Q m a w → Code.roundsIn F n P c Q' m a w
  | 0, _, _, h => h
  | m + 1, a, w, h => by
    rw [roundsIn_succ] at h ⊢
    refine wpIn_mono h fun e a w hx => ?_
    cases e <;> first | exact roundsIn_mono hq m _ _ hx | exact hq _ _ _ hx
theorem loopOk_frame {r : Option Nat} {c : Code} {tm : List Value} {ds : List Nat} {H1 F : Hp} {nx : Nat} {R : Res} (h : LoopOk P r c tm ds H1 nx R) (hro : roOld H1 R.H = true) (hF : ∀ b k, F.get b = some k → H1.get b = none)
    (hG : ∀ b k, H1.get b = some k → H.get b = some k) (hG2 : ∀ b k, F.get b = some k → H.get b = some k) : LoopOk P r c tm ds H nx { R with H := R.H ++ F } := by
  obtain ⟨hle, m, h2⟩ := h
  refine ⟨hle, m, fun φ w K a rc g hf ht hd hr => ?_⟩
  let K2 : Nat → Prop := fun c => K c ∨ ∃ b k L, F.get b = some k ∧ φ b = some L ∧ L.blk = c
  have g1 : Good φ H1 K2 w := by
    refine ⟨fun b k hb => g.rel b k (hG b k hb), fun b c k k' L L' hb hc => g.sep b c k k' L L' (hG b k hb) (hG c k' hc), fun b k L hb hkr hL hK => ?_, fun c hc => ?_⟩
    · rcases hK with hK | ⟨d, k', L', hd', hL', he⟩
      · exact g.prot b k L (hG b k hb) hkr hL hK
      · have hne : b ≠ d := by rintro rfl; rw [hF _ _ hd'] at hb; cases hb
        exact g.sep b d k k' L L' (hG b k hb) (hG2 d k' hd') hne hkr hL hL' he.symm
    · rcases hc with hK | ⟨b, k, L, hb, hL, he⟩
      · exact g.kin c hK
      · have := (g.at (hG2 b k hb) hL).lt; omega
  refine roundsIn_mono ?_ m a w (h2 φ w K2 a rc g1 hf ht hd hr)
  rintro e a1 w1 ⟨rfl, φ', k1, k2, k3, k4, k5⟩
  refine ⟨rfl, φ', k1, ?_, k3, k4, ⟨k5.os, k5.tape, k5.output, k5.size, fun c hc => k5.kept c (.inl hc)⟩⟩
  have hget : ∀ b k, Hp.get (R.H ++ F) b = some k → R.H.get b = some k ∨ (R.H.get b = none ∧ F.get b = some k) := by
    intro b k hb
    rw [Hp.get_append] at hb
    cases hR : R.H.get b with
    | some k' => rw [hR] at hb; left; exact hb
    | none => rw [hR] at hb; exact .inr ⟨rfl, hb⟩
  have hFL : ∀ b k L, F.get b = some k → φ' b = some L → φ b = some L := by
    intro b k L hb hL
    obtain ⟨M, hM, _⟩ := g.rel b k (hG2 b k hb)
    have := k1.1 _ _ hM
    rw [hL] at this; cases this; exact hM
  refine ⟨fun b k hb => ?_, fun b c k k' L L' hb hc hne hkr hL hL' => ?_, fun b k L hb hkr hL hK => ?_, fun c hc => Nat.lt_of_lt_of_le (g.kin c hc) k5.size⟩
  · rcases hget b k hb with hb | ⟨_, hb⟩
    · exact k2.rel b k hb
    · obtain ⟨L, hL, hbr⟩ := g.rel b k (hG2 b k hb)
      exact ⟨L, k1.1 _ _ hL, (hbr.congr (k5.kept L.blk (.inr ⟨b, k, L, hb, hL, rfl⟩))).mono k1.1⟩
  · rcases hget b k hb with hb | ⟨_, hb⟩
    · rcases hget c k' hc with hc | ⟨_, hc⟩
      · exact k2.sep b c k k' L L' hb hc hne hkr hL hL'
      · exact fun e => k2.prot b k L hb hkr hL (.inr ⟨c, k', L', hc, hFL c k' L' hc hL', e.symm⟩)
    · have hLb := hFL b k L hb hL
      rcases hget c k' hc with hc | ⟨_, hc⟩
      · cases hkc : k'.rw with
        | true => exact fun e => k2.prot c k' L' hc hkc hL' (.inr ⟨b, k, L, hb, hLb, e⟩)
        | false =>
          obtain ⟨k0, h0⟩ := roOld_get hro hc hkc
          obtain ⟨M, hM, _⟩ := g.rel c k0 (hG c k0 h0)
          have := k1.1 _ _ hM
          rw [hL'] at this; cases this
          exact g.sep b c k k0 L L' (hG2 b k hb) (hG c k0 h0) hne hkr hLb hM
      · exact g.sep b c k k' L L' (hG2 b k hb) (hG2 c k' hc) hne hkr hLb (hFL c k' L' hc hL')
  · rcases hget b k hb with hb | ⟨_, hb⟩
    · exact k2.prot b k L hb hkr hL ∘ .inl <| hK
    · exact g.prot b k L (hG2 b k hb) hkr (hFL b k L hb hL) hK
def normE : Exit → Bool
  | .normal => true
  | _ => false
/-- The rounds for all entries: the greatest name that they come to. -/
def mapRounds (lst : Array Oper → List Oper → List Value → Hp → Nat → Option (List Value × Hp × Nat)) (code : Code → List Value → List Nat → Hp → Nat → Option Res) (S : MLoop) (tb : List Value) (Hb : Hp) (nx ib : Nat) : List (Value × Value × Nat) → Option Nat
  | [] => some nx
  | (k, v, _) :: es => match mapRounds lst code S tb Hb nx ib es with
    | some top => match lst S.ops1 S.tail1 (putT tb (some S.sN) (.tuple #[.bool true, k, v])) Hb nx with
      | some (t1, H1, n1) => match opv t1 S.ok, opv t1 (.tmp S.it) with
        | some (.bool true), some (.pointer (some ⟨ib2, 0, none⟩)) => match lst S.ops2 S.tail2 (putT t1 (some S.sE) (.tuple #[k, v])) H1 n1 with
          | some (t2, H2, n2) => match code S.rest t2 [] H2 n2 with
            | some R => if Nat.beq ib ib2 && normE (R.inBlock S.bb).e && chkT nx tb R.tm && chkH nx R.H Hb && R.ds.isEmpty then some (max top R.nx) else none
            | none => none
          | none => none
        | _, _ => none
      | none => none
    | none => none
def isC (H : Hp) (b : Nat) : Bool := match H.get b with
  | some (.cells _ _) => true
  | _ => false
def hpC (H : Hp) : Hp := Hp.only (isC H) H
def hpO (ib mb : Nat) (H : Hp) : Hp := Hp.only (fun c => !(isC H c || Nat.beq c ib || Nat.beq c mb)) H
def mapLoop (lst : Array Oper → List Oper → List Value → Hp → Nat → Option (List Value × Hp × Nat)) (code : Code → List Value → List Nat → Hp → Nat → Option Res) (c : Code) (tm : List Value) (ds : List Nat) (H : Hp) (nx : Nat) : Option Res :=
  match mapShape c with
  | some S => match ds, opv (jT (dstC c) 0 tm) (.tmp S.it) with
    | [], some (.pointer (some ⟨ib, 0, none⟩)) => match H.get ib with
      | some (.iter mb cl) => match H.get mb with
        | some (.mp es cl2) => match mapRounds lst code S (jT (dstC c) 0 tm) (hpC H) nx ib es with
          | some top => match lst S.ops1 S.tail1 (putT (jT (dstC c) 0 tm) (some S.sN) (.tuple #[.bool false])) (hpC H) nx with
            | some (tF, HF, nF) => match opv tF S.ok with
              | some (.bool false) => if Nat.beq cl cl2 && roOld (Hp.only (fun c => isC H c || Nat.beq c ib || Nat.beq c mb) H) HF then some ⟨.exit S.bx, tF, [], HF ++ hpO ib mb H, max top nF⟩ else none
              | _ => none
            | none => none
          | none => none
        | _ => none
      | _ => none
    | _, _ => none
  | none => none
theorem mapRounds_ok {lst : Array Oper → List Oper → List Value → Hp → Nat → Option (List Value × Hp × Nat)} {code : Code → List Value → List Nat → Hp → Nat → Option Res} {r : Option Nat}
    (hl : ∀ {ops : Array Oper} {l : List Oper} {k : Nat} {tm : List Value} {H : Hp} {nx : Nat} {tm' : List Value} {H' : Hp} {nx' : Nat}, (∀ j : Nat, l[j]? = ops[k + j]?) → lst ops l tm H nx = some (tm', H', nx') → OpsOk P r ops (List.range' k l.length) tm H nx tm' H' nx')
    (hc : ∀ {c : Code} {tm : List Value} {ds : List Nat} {H : Hp} {nx : Nat} {R : Res}, code c tm ds H nx = some R → CodeOk P r c tm ds H nx R)
    {c : Code} {S : MLoop} (hS : S.Of c) {tb : List Value} {Hb : Hp} {nx ib : Nat} : ∀ {es : List (Value × Value × Nat)} {top : Nat}, mapRounds lst code S tb Hb nx ib es = some top → nx ≤ top ∧ ∀ top', top ≤ top' → ∀ k v b, (k, v, b) ∈ es → Round P r S tb Hb nx top' ib k v
  | [], top, h => by simp only [mapRounds, Option.some.injEq] at h; subst h; exact ⟨Nat.le_refl _, fun _ _ _ _ _ h => by cases h⟩
  | (k, v, b) :: es, top, h => by
    have s1 : ∀ j : Nat, S.tail1[j]? = S.ops1[1 + j]? := fun j => by rw [← Array.getElem?_toList, hS.l1, Nat.add_comm]; rfl
    have s2 : ∀ j : Nat, S.tail2[j]? = S.ops2[1 + j]? := fun j => by rw [← Array.getElem?_toList, hS.l2, Nat.add_comm]; rfl
    simp only [mapRounds] at h
    split at h
    case h_2 => cases h
    rename_i top0 h0
    obtain ⟨i1, i2⟩ := mapRounds_ok hl hc hS h0
    split at h
    case h_2 => cases h
    rename_i t1 H1 n1 h1
    split at h
    case h_2 => cases h
    rename_i ib2 o1 o2
    split at h
    case h_2 => cases h
    rename_i t2 H2 n2 h2
    split at h
    case h_2 => cases h
    rename_i R h3
    split at h
    case isFalse => cases h
    rename_i h4
    simp only [Bool.and_eq_true, List.isEmpty_iff] at h4
    cases h
    obtain ⟨⟨⟨⟨q1, q2⟩, q3⟩, q4⟩, q5⟩ := h4
    have := Nat.eq_of_beq_eq_true q1
    subst this
    refine ⟨Nat.le_trans i1 (Nat.le_max_left _ _), fun top' ht k' v' b' hm => ?_⟩
    rcases List.mem_cons.1 hm with hm | hm
    · cases hm
      refine ⟨t1, H1, n1, t2, H2, n2, R, hl s1 h1, o1, o2, hl s2 h2, hc h3, ?_, Nat.le_trans (Nat.le_max_right _ _) ht, q3, q4, q5⟩
      cases hE : (R.inBlock S.bb).e <;> simp [hE, normE] at q2 ⊢
    · exact i2 top' (Nat.le_trans (Nat.le_max_left _ _) ht) k' v' b' hm
theorem mapLoop_ok {lst : Array Oper → List Oper → List Value → Hp → Nat → Option (List Value × Hp × Nat)} {code : Code → List Value → List Nat → Hp → Nat → Option Res} {r : Option Nat}
    (hl : ∀ {ops : Array Oper} {l : List Oper} {k : Nat} {tm : List Value} {H : Hp} {nx : Nat} {tm' : List Value} {H' : Hp} {nx' : Nat}, (∀ j : Nat, l[j]? = ops[k + j]?) → lst ops l tm H nx = some (tm', H', nx') → OpsOk P r ops (List.range' k l.length) tm H nx tm' H' nx')
    (hc : ∀ {c : Code} {tm : List Value} {ds : List Nat} {H : Hp} {nx : Nat} {R : Res}, code c tm ds H nx = some R → CodeOk P r c tm ds H nx R)
    {c : Code} {tm : List Value} {ds : List Nat} {nx : Nat} {R : Res} (h : mapLoop lst code c tm ds H nx = some R) : LoopOk P r c tm ds H nx R := by
  unfold mapLoop at h
  split at h
  case h_2 => cases h
  rename_i S hS
  have hS := mapShape_of hS
  split at h
  case h_2 => cases h
  rename_i ib hit
  split at h
  case h_2 => cases h
  rename_i mb cl hib
  split at h
  case h_2 => cases h
  rename_i es cl2 hmb
  split at h
  case h_2 => cases h
  rename_i top h0
  split at h
  case h_2 => cases h
  rename_i tF HF nF h1
  split at h
  case h_2 => cases h
  rename_i h2
  split at h
  case isFalse => cases h
  rename_i h3
  simp only [Bool.and_eq_true] at h3
  obtain ⟨h3, h4⟩ := h3
  have := Nat.eq_of_beq_eq_true h3
  subst this
  cases h
  have s1 : ∀ j : Nat, S.tail1[j]? = S.ops1[1 + j]? := fun j => by rw [← Array.getElem?_toList, hS.l1, Nat.add_comm]; rfl
  obtain ⟨i1, i2⟩ := mapRounds_ok hl hc hS h0
  have hnI : isC H ib = false := by simp only [isC, hib]
  have hnM : isC H mb = false := by simp only [isC, hmb]
  have hloop : LoopOk P r c tm [] (Hp.only (fun c => isC H c || Nat.beq c ib || Nat.beq c mb) H) nx ⟨.exit S.bx, tF, [], HF, max top nF⟩ := by
    refine loop_map hS (ib := ib) (mb := mb) (cl := cl) (es := es) ?_ ?_ (Hb := hpC H) (tb := jT (dstC c) 0 tm) (fun b k hb => ?_) (fun φ ts h => jT_rel h) hit (Nat.le_trans i1 (Nat.le_max_left _ _)) (i2 _ (Nat.le_max_left _ _)) (hl s1 h1) (Nat.le_max_right _ _) h2
    · rw [Hp.get_only]; simp [hib]
    · rw [Hp.get_only]; simp [hmb]
    · unfold hpC at hb
      rw [Hp.get_only] at hb
      cases hx : isC H b with
      | false => rw [hx] at hb; simp at hb
      | true =>
        rw [hx] at hb
        refine ⟨by rw [Hp.get_only]; simp only [hx, Bool.true_or, if_true]; simpa using hb, ?_, ?_⟩
        · rintro rfl; rw [hnI] at hx; cases hx
        · rintro rfl; rw [hnM] at hx; cases hx
  refine loopOk_frame hloop h4 (fun b k hb => ?_) (fun b k hb => ?_) (fun b k hb => ?_)
  · unfold hpO at hb
    rw [Hp.get_only] at hb ⊢
    split at hb
    · rename_i hx
      simp only [Bool.not_eq_true'] at hx
      rw [hx]; simp
    · cases hb
  · rw [Hp.get_only] at hb
    split at hb
    · exact hb
    · cases hb
  · unfold hpO at hb
    rw [Hp.get_only] at hb
    split at hb
    · exact hb
    · cases hb
end Go.En
