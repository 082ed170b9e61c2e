/- Plain: heads when all classes are always open; contracts at other names. -/
import Derived.Test.YtjconcfkpgkbkaaChY
namespace Go.Proofs.Ytjconcfkpgkbkaa.choose
open Go Go.En
set_option linter.unusedVariables false

/-- The entries at block 1, the heads at block h. -/
def ρs (h : Nat) : Nat → Nat
  | 0 => 1
  | _ => h
def Cx.lcS (X : Cx) : List Value := [.slice (some ⟨1, 0, none⟩) X.es.length X.c, .int .i64 X.cyc, .int .i64 X.per, .int .i64 X.sh]
def Cx.lvS (X : Cx) : Value := .agg ⟨X.lcS⟩
def Cx.VS (X : Cx) (h : Nat) : List (Nat × List Value) := [(1, ecs X.es), (h, pcs X.hs)]
theorem mvS (X : Cx) {f : FuncId} {args args' : List Value} {v v' : Value} {new new' : List (Nat × List Value)} {n' : Nat} (h : Memo.Ok Try.prog ⟨f, 2, args, X.V 1, v, new, n'⟩) (b nx : Nat) (hb : b ≠ 1)
    (hc : (En.smallL (En.small 2 5) args && En.small n' 5 v && inNew 2 n' new) = true) (hns : En.smallH n' new = true)
    (h1 : args.map (renV (shift (ρs b) 2 nx) 5) = args') (h2 : renV (shift (ρs b) 2 nx) 5 v = v') (h3 : renH (shift (ρs b) 2 nx) new = new') : Memo.Ok Try.prog ⟨f, nx, args', X.VS b, v', new', nx + (n' - 2)⟩ := by
  simp only [Bool.and_eq_true] at hc
  have hb2 : below 2 (X.V 1) = true := by kernel_rfl
  have := memo_ren h (ρs b) nx (X.VS b) (by simp only [hc.1.1, hc.1.2, hc.2, hb2, Bool.and_self]) (X.smallH 2 1) hns (fun x cs hx => by
    by_cases h0 : 0 = x
    · subst h0
      simp [Cx.V, Cx.VS, roHp, Hp.get, ρs] at hx ⊢
      subst hx
      exact (renV_avL (ecs_av X.es)).symm
    · by_cases h1 : 1 = x
      · subst h1
        have hb' : ¬ (1 = b) := fun e => hb e.symm
        simp [Cx.V, Cx.VS, roHp, Hp.get, ρs, hb'] at hx ⊢
        subst hx
        exact (renV_avL (pcs_av X.hs)).symm
      · simp [Cx.V, roHp, Hp.get, h0, h1] at hx)
  rwa [h1, h2, h3] at this
theorem StartE_s (X : Cx) (t : Int) {e : Int} (he : errC X t = e) (hne : (e != 0) = true) (b nx : Nat) (hb : b ≠ 1) : Memo.Ok Try.prog ⟨18, nx, [X.lvS, X.hv b, .int .i64 t], X.VS b, .tuple #[.int .i64 0, .int .i64 e], [], nx⟩ :=
  mvS X (StartE X t he hne) b nx hb (by kernel_rfl) rfl rfl rfl rfl
theorem StartY_s (X : Cx) {t : Int} (he : errC X t = 0) {g : Option Nat} (hg : startS X t = g) (b nx : Nat) (hb : b ≠ 1) : Memo.Ok Try.prog ⟨18, nx, [X.lvS, X.hv b, .int .i64 t], X.VS b, startV g, [], nx⟩ := by
  have h := StartY X he hg
  cases g <;> exact mvS X h b nx hb (by kernel_rfl) rfl rfl rfl rfl
theorem WhenY_s (X : Cx) {t : Int} (he : errC X t = 0) {g : Option Int} (hg : whenS X t = g) (b nx : Nat) (hb : b ≠ 1) : Memo.Ok Try.prog ⟨22, nx, [X.lvS, X.hv b, .int .i64 t], X.VS b, fitV g, [], nx⟩ := by
  have h := WhenY X he hg
  cases g <;> exact mvS X h b nx hb (by kernel_rfl) rfl rfl rfl rfl
/-! ### The line that is always open -/
def e255 : Ent := ⟨255, 1⟩
theorem good1 : Good [e255] 1 := good_of (by decide +kernel)
theorem chk1 : chkG [e255] 1 = true := by decide +kernel
theorem few_s {m k : Nat} {per : Int} {hs : List Pt} (hm : m ≤ k) (hk : k < openCap) (hh : hs.length = min m 12) (h0 : 0 < m) :
    Memo.Ok Try.prog ⟨12, 3, [.agg #[.slice (some ⟨1, 0, none⟩) 1 1, .int .i64 1, .int .i64 per, .int .i64 0], .slice (some ⟨0, 0, none⟩) m k], [(1, ecs [e255]), (0, pcs hs)], .tuple #[.agg #[.slice (some ⟨1, 0, none⟩) 1 1, .int .i64 1, .int .i64 per, .int .i64 0], hv 10 hs.length oc7], [(10, pcs hs)], 11⟩ := by
  have h := few_some (sa := some ⟨0, 0, none⟩) (n := 1) (c := 1) (es := [e255]) (cyc := 1) (per := per) (sh := 0) (.inr rfl) (Nat.le_refl _) (by decide) rfl hm hk hh h0
  have hs2 : En.smallH 10 [(9, pcs hs)] = true := by simp [En.smallH, small_avL (pcs_av _)]
  have hr : renH (shift (ρs 0) 2 3) [(9, pcs hs)] = [(10, pcs hs)] := by
    simp only [renH, List.cons.injEq, Prod.mk.injEq, and_true]
    exact ⟨rfl, renV_avL (pcs_av _)⟩
  exact mvS ⟨[e255], 1, 1, per, 0, hs, 0, by simp, by omega⟩ h 0 3 (by omega) (by kernel_rfl) hs2 (by kernel_rfl) (by kernel_rfl) hr
theorem few_s0 {k : Nat} {per : Int} {sb : Option Addr} (hb : Sl 1 0 sb) {sb' : Option Addr} (hb' : Sl 0 0 sb') (hbb : sb.isSome = sb'.isSome) (hk : k < openCap) :
    Memo.Ok Try.prog ⟨12, 3, [.agg #[.slice (some ⟨1, 0, none⟩) 1 1, .int .i64 1, .int .i64 per, .int .i64 0], .slice sb' 0 k], [(1, ecs [e255]), (0, pcs [])], .tuple #[.agg #[.slice (some ⟨1, 0, none⟩) 1 1, .int .i64 1, .int .i64 per, .int .i64 0], hv 7 0 0], [(7, [])], 11⟩ := by
  have h := few_none (sa := some ⟨0, 0, none⟩) (n := 1) (c := 1) (es := [e255]) (cyc := 1) (per := per) (sh := 0) (hs := []) (.inr rfl) (Nat.le_refl _) (by decide) rfl hb hk
  rcases hb with ⟨rfl, _⟩ | rfl <;> rcases hb' with ⟨rfl, _⟩ | rfl
  · exact mvS ⟨[e255], 1, 1, per, 0, [], 0, by simp, by simp⟩ h 0 3 (by omega) (by kernel_rfl) (by kernel_rfl) (by kernel_rfl) (by kernel_rfl) (by kernel_rfl)
  · cases hbb
  · cases hbb
  · exact mvS ⟨[e255], 1, 1, per, 0, [], 0, by simp, by simp⟩ h 0 3 (by omega) (by kernel_rfl) (by kernel_rfl) (by kernel_rfl) (by kernel_rfl) (by kernel_rfl)
theorem open1 {cls : Int} (h0 : 0 ≤ cls) (h7 : cls ≤ 7) (u : Int) : openN [e255] cls u 1 = 1099511627776 := by
  have hall : ∀ v, opn [e255] 1 cls v = true := fun v => by
    have hf : (findS [e255] v 1).1 = 0 := by
      have := (findS_ok good1 v).1
      simp at this
      exact this
    unfold opn mk
    rw [hf]
    show openS cls 255 = true
    rcases (show cls = 0 ∨ cls = 1 ∨ cls = 2 ∨ cls = 3 ∨ cls = 4 ∨ cls = 5 ∨ cls = 6 ∨ cls = 7 by omega) with rfl | rfl | rfl | rfl | rfl | rfl | rfl | rfl <;> decide +kernel
  rcases open_spec good1 cls u with ⟨_, h⟩ | ⟨_, _, _, h⟩
  · exact h
  · rw [hall] at h; cases h
section
variable {per : Int} {hs : List Pt} {k : Nat} {hH : hs.length ≤ 1000}
abbrev XO (per : Int) (hs : List Pt) (k : Nat) (hH : hs.length ≤ 1000) : Cx := ⟨[e255], 1, 1, per, 0, hs, k, by simp, hH⟩
theorem may1 {t : Int} (he : errC (XO per hs k hH) t = 0) {i : Nat} (hi : i < 8) : mayS (XO per hs k hH) i t = (fullS (XO per hs k hH) i && freeS (XO per hs k hH) i) := by
  cases hff : (fullS (XO per hs k hH) i && freeS (XO per hs k hH) i) with
  | false => exact may_no hff
  | true =>
    simp only [Bool.and_eq_true] at hff
    rw [may_is he hi hff.1 hff.2]
    obtain ⟨_, _, _, _, _, _, a7⟩ := arg_ok he hi hff.1
    refine decide_eq_true ?_
    rw [show openN (XO per hs k hH).es i (t + (XO per hs k hH).sh) (XO per hs k hH).cyc = 1099511627776 from open1 (by omega) (by omega) _]
    omega
/-- Which class has a rest. -/
def restS (X : Cx) (i : Nat) : Bool := (X.at_ i).rest
theorem zp_rest {p : Pt} (h : eqPt p zp = true) : p.rest = false := by
  unfold eqPt at h
  simp only [Bool.and_eq_true, beq_iff_eq] at h
  exact h.2.2.1
def nrest : List Pt → Int
  | [] => 0
  | p :: l => (bif p.rest then 1 else 0) + nrest l
theorem nrest_nn : ∀ l : List Pt, 0 ≤ nrest l
  | [] => Int.le_refl _
  | p :: l => by
    have := nrest_nn l
    simp only [nrest]
    cases p.rest <;> simp <;> omega
theorem headsGo_n : ∀ {l : List Pt} {i : Nat} {r r' : Int}, 0 ≤ r → r + l.length ≤ 1000000 → headsGo l i r = some r' → r' = r + nrest l
  | [], i, r, r', _, _, h => by simp only [headsGo, Option.some.injEq] at h; simp [nrest, h]
  | p :: l, i, r, r', h0, h1, h => by
    simp only [headsGo, hstep] at h
    simp only [List.length_cons] at h1
    push_cast at h1
    cases hz : eqPt p zp with
    | true =>
      rw [hz] at h
      simp only [cond_true] at h
      have := headsGo_n h0 (by omega) h
      simp only [nrest]
      rw [zp_rest hz]
      simp; exact this
    | false =>
      rw [hz] at h
      cases hbd : hbad p i with
      | true => rw [hbd] at h; cases h
      | false =>
        rw [hbd] at h
        simp only [cond_false] at h
        simp only [nrest]
        cases hr : p.rest with
        | true =>
          rw [hr] at h
          simp only [cond_true] at h ⊢
          rw [W_id (a := r + 1) (by omega)] at h
          have := headsGo_n (by omega) (by omega) h
          omega
        | false =>
          rw [hr] at h
          simp only [cond_false] at h ⊢
          have := headsGo_n h0 (by omega) h
          omega
theorem nrest_ge : ∀ {l : List Pt} {i : Nat} {p : Pt}, l[i]? = some p → p.rest = true → 1 ≤ nrest l
  | [], i, p, h, _ => by simp at h
  | q :: l, 0, p, h, hr => by
    simp only [List.getElem?_cons_zero, Option.some.injEq] at h
    subst h
    have := nrest_nn l
    simp only [nrest, hr]; simp; omega
  | q :: l, i + 1, p, h, hr => by
    simp only [List.getElem?_cons_succ] at h
    have := nrest_ge h hr
    simp only [nrest]
    cases q.rest <;> simp <;> omega
theorem nrest_one : ∀ {l : List Pt} {i j : Nat} {p q : Pt}, nrest l ≤ 1 → l[i]? = some p → p.rest = true → l[j]? = some q → q.rest = true → i = j
  | [], i, j, p, q, _, h, _, _, _ => by simp at h
  | x :: l, 0, 0, p, q, _, _, _, _, _ => rfl
  | x :: l, 0, j + 1, p, q, hn, h1, h2, h3, h4 => by
    simp only [List.getElem?_cons_zero, Option.some.injEq] at h1
    subst h1
    simp only [List.getElem?_cons_succ] at h3
    have := nrest_ge h3 h4
    simp only [nrest, h2] at hn
    simp at hn; omega
  | x :: l, i + 1, 0, p, q, hn, h1, h2, h3, h4 => by
    simp only [List.getElem?_cons_zero, Option.some.injEq] at h3
    subst h3
    simp only [List.getElem?_cons_succ] at h1
    have := nrest_ge h1 h2
    simp only [nrest, h4] at hn
    simp at hn; omega
  | x :: l, i + 1, j + 1, p, q, hn, h1, h2, h3, h4 => by
    simp only [List.getElem?_cons_succ] at h1 h3
    simp only [nrest] at hn
    have : nrest l ≤ 1 := by cases hx : x.rest <;> rw [hx] at hn <;> simp at hn <;> omega
    rw [nrest_one this h1 h2 h3 h4]
theorem one_rest {X : Cx} (h : headsS X.hs = true) (h8 : X.hs.length = 8) {i j : Nat} (hi : i < 8) (hj : j < 8) (h1 : restS X i = true) (h2 : restS X j = true) : i = j := by
  unfold headsS at h
  simp only [Bool.and_eq_true] at h
  cases hg : headsGo X.hs 0 0 with
  | none => rw [hg] at h; cases h.2
  | some r =>
    rw [hg] at h
    have hr := headsGo_n (Int.le_refl 0) (by omega) hg
    have : nrest X.hs ≤ 1 := by
      have h3 := h.2
      simp only [fewR, Bool.not_eq_true', decide_eq_false_iff_not] at h3
      omega
    exact nrest_one this (pt_at (by omega)) h1 (pt_at (by omega)) h2
theorem rest_full {X : Cx} {i : Nat} (h : restS X i = true) : fullS X i = true := by
  unfold fullS
  cases hz : eqPt (X.at_ i) zp with
  | false => rfl
  | true => unfold restS at h; rw [zp_rest hz] at h; cases h
theorem rest_low {X : Cx} (hh : headsS X.hs = true) {i : Nat} (hi : i < 8) (h : restS X i = true) : i < 6 := by
  obtain ⟨h1, h2⟩ := heads_cls hh hi (rest_full h)
  rw [part_eq] at h2
  unfold partR at h2
  unfold restS at h
  rw [h] at h2
  simp only [cond_true, Bool.and_eq_true, decide_eq_true_eq] at h2
  omega
theorem held_yes {X : Cx} {i : Nat} : ∀ {n k j : Nat}, k ≤ j → j < k + n → j ≠ i → restS X j = true → heldGo X i n k = true
  | 0, k, j, h1, h2, _, _ => by omega
  | n + 1, k, j, h1, h2, h3, h4 => by
    simp only [heldGo]
    by_cases hk : k = j
    · subst hk
      have : heldP (X.at_ k) i k = true := by
        unfold heldP
        unfold restS at h4
        rw [h4]
        simp; omega
      rw [this]; rfl
    · rw [held_yes (n := n) (k := k + 1) (by omega) (by omega) h3 h4]
      simp
theorem held_no {X : Cx} {i : Nat} : ∀ {n k : Nat}, (∀ j, k ≤ j → j < k + n → j ≠ i → restS X j = false) → heldGo X i n k = false
  | 0, k, _ => rfl
  | n + 1, k, h => by
    simp only [heldGo]
    rw [held_no (n := n) (k := k + 1) fun j h1 h2 h3 => h j (by omega) (by omega) h3]
    have : heldP (X.at_ k) i k = false := by
      unfold heldP
      by_cases hk : k = i
      · subst hk; simp
      · have := h k (by omega) (by omega) hk
        unfold restS at this
        rw [this]; simp
    rw [this]; rfl
theorem down_eq {f : Nat → Bool} {i : Nat} : ∀ {n : Nat}, i < n → f i = true → (∀ j, i < j → j < n → f j = false) → down f n = some i
  | 0, h, _, _ => by omega
  | n + 1, h, hf, hn => by
    simp only [down]
    by_cases hi : i = n
    · subst hi; rw [hf]; rfl
    · rw [hn n (by omega) (by omega)]
      exact down_eq (by omega) hf fun j h1 h2 => hn j h1 (by omega)
theorem down_no {f : Nat → Bool} : ∀ {n : Nat}, down f n = none → ∀ j, j < n → f j = false
  | 0, _, j, h => by omega
  | n + 1, h, j, hj => by
    simp only [down] at h
    cases hq : f n with
    | true => rw [hq] at h; cases h
    | false =>
      rw [hq] at h
      by_cases hjn : j = n
      · subst hjn; exact hq
      · exact down_no h j (by omega)
def bestS (X : Cx) : Option Nat := down (fullS X) 8
def rstS (X : Cx) : Option Nat := down (restS X) 8
/-- The class that is to start. -/
def wantS (b r : Option Nat) : Option Nat := match b, r with
  | none, _ => none
  | some b, none => some b
  | some b, some r => bif decide ((b : Int) < 6) then some r else some b
theorem start1 {t : Int} (he : errC (XO per hs k hH) t = 0) : startS (XO per hs k hH) t = wantS (bestS (XO per hs k hH)) (rstS (XO per hs k hH)) := by
  obtain ⟨hh, _⟩ := errC_heads he
  obtain ⟨_, h8, _, _⟩ := errC_ok he
  unfold startS
  have hm := fun i (hi : i < 8) => may1 (per := per) (hs := hs) (k := k) (hH := hH) he hi
  generalize XO per hs k hH = X at *
  have hfree6 : ∀ i, 6 ≤ i → freeS X i = true := fun i hi => by
    unfold freeS
    rw [decide_eq_true (show (i : Int) ≥ 6 by omega)]; rfl
  cases hb : bestS X with
  | none =>
    refine down_none fun i hi => ?_
    rw [hm i hi, down_no hb i hi]; rfl
  | some b =>
    obtain ⟨b8, bf, bm⟩ := down_some hb
    cases hr : rstS X with
    | none =>
      refine down_eq b8 ?_ fun j j1 j2 => ?_
      · rw [hm b b8, bf]
        unfold freeS heldS
        rw [held_no fun j _ j2 _ => down_no hr j (by omega)]
        simp
      · rw [hm j j2, bm j j1 j2]; rfl
    | some r =>
      obtain ⟨r8, rf, rm⟩ := down_some hr
      have r6 := rest_low hh r8 rf
      have rfu := rest_full rf
      simp only [wantS]
      cases hd : decide ((b : Int) < 6) with
      | false =>
        have hd := of_decide_eq_false hd
        refine down_eq b8 ?_ fun j j1 j2 => ?_
        · rw [hm b b8, bf, hfree6 b (by omega)]; rfl
        · rw [hm j j2, bm j j1 j2]; rfl
      | true =>
        have hd := of_decide_eq_true hd
        refine down_eq r8 ?_ fun j j1 j2 => ?_
        · rw [hm r r8, rfu]
          unfold freeS heldS
          rw [held_no fun j _ j2 j3 => by
            cases hx : restS X j with
            | false => rfl
            | true => exact absurd (one_rest hh h8 (by omega) r8 hx rf) j3]
          simp
        · rw [hm j j2]
          by_cases hjb : b < j
          · rw [bm j hjb j2]; rfl
          · have : freeS X j = false := by
              unfold freeS heldS
              rw [decide_eq_false (show ¬ (j : Int) ≥ 6 by omega), held_yes (j := r) (by omega) (by omega) (by omega) rf]
              rfl
            rw [this]; simp
theorem when1 {t : Int} (he : errC (XO per hs k hH) t = 0) {s : Nat} (h : startS (XO per hs k hH) t = some s) : whenS (XO per hs k hH) t = some t := by
  obtain ⟨_, _, _, t1⟩ := errC_ok he
  have hw := when_start he
  cases hg : whenS (XO per hs k hH) t with
  | none => rw [hg] at hw; rw [hw] at h; cases h
  | some n =>
    rw [hg] at hw
    obtain ⟨h1, h2, _⟩ := hw
    by_cases hn : t < n
    · rw [h2 t (Int.le_refl _) hn t1] at h; cases h
    · congr 1; omega
end
end Go.Proofs.Ytjconcfkpgkbkaa.choose
