/- QueueOrders: the rounds of its first loop. -/
import Derived.Test.YtddhglcmfoopnaaFnU
namespace Go.Proofs.Ytddhglcmfoopnaa.queue
open Go Go.En
set_option linter.unusedVariables false

def T8 (cap : Int) (a p e : Value) (n i : Int) : List Value := [.int .u16 cap, J, J, J, .bool false, pt 1, J, a, p] ++ List.replicate 26 J ++ [e, .int .i64 n, .int .i64 i] ++ List.replicate 118 J
def nl : Value := .slice none 0 0
def qsl (b off n : Nat) : Value := .slice (some ⟨b, off, none⟩) n oc7
def B8 (cap : Int) (E : List Sp) (q : Value) : Hp := [(1, .cells [.int .i64 cap, q] false), (0, .cells (ecs E) true)]
def G1 (cap : Int) (E : List Sp) (cs : List Value) (off n : Nat) (A : List It) (q a : Nat) : Hp := (q, .cells cs false) :: (a, .cells (ics A) false) :: B8 cap E (qsl q off n)
def G2 (cap : Int) (E : List Sp) (cs : List Value) (off n : Nat) (A P : List It) (q a p : Nat) : Hp := (q, .cells cs false) :: (a, .cells (ics A) false) :: (p, .cells (ics P) false) :: B8 cap E (qsl q off n)
def esl (n c : Nat) : Value := .slice (some ⟨0, 0, none⟩) n c
theorem conv_id {cap : Int} (h : 0 ≤ cap ∧ cap ≤ 65535) : IntKind.i64.wrap cap = cap := by
  rw [show cap = ((cap.toNat : Nat) : Int) by omega, wrap_nat (by omega)]
theorem over_leq {cap : Int} {l : List Pt} {i : It} {b : Bool} (hc : 0 ≤ cap ∧ cap ≤ 65535) (h : overS cap l i = b) : decide (IntKind.i64.wrap (sumW (·.left) l 0 + i.size) ≤ cap) = !b := by
  unfold overS at h
  subst h
  by_cases h1 : IntKind.i64.wrap (sumW (fun x => x.left) l 0 + i.size) ≤ cap
  · rw [decide_eq_true h1, decide_eq_false (by omega)]; rfl
  · rw [decide_eq_false h1, decide_eq_true (by omega)]; rfl
section
variable {cap : Int} {E : List Sp} {n c i : Nat} {x : Sp} {cs : List Value} {off : Nat} {A P : List It}

theorem r0_bad (hi : E[i]? = some x) (hlt : i < n) (hk : (Int.tmod x.k 3 == 2) = false) (ck : checkS cap [] = true) (h2 : itemOk x.it = false) :
    CodeOk Try.prog none (lp Try.prog 6 8) (T8 cap nl nl (esl n c) n i) [] (B8 cap E nl) 8 ⟨.normal, (T8 cap nl nl (esl n c) n (IntKind.i64.wrap (i + 1))), [], B8 cap E nl, 10⟩ := by
  have mo := octets_nm ck 9
  have mp := memo_any (pushN_no ck h2 rfl (by rfl) (.bool true)) 9 (by kernel_rfl) rfl rfl
  have mi := checkItem_m _ h2 10
  have hd : decide ((i : Int) < n) = true := decide_eq_true (by omega)
  obtain ⟨xk, x1, x2, x3, x4, x5⟩ := x
  exact code_k [1, 0] (hs := [(38, .val (.bool (decide ((i : Int) < n))) (.bool true)), (39, .ix 58 (esl n c) (.int .i64 i) _), (40, .ld 61 _ 0 (ecs E) true _), (44, .val (.bool (Int.tmod xk 3 == 2)) (.bool false)), (80, .call _), (87, .call _), (98, .call _)]) (ch := []) (evk 50) special ⟨congrArg Value.bool hd, ix58 hlt, ⟨ld61 hi, _, rfl⟩, congrArg Value.bool hk, mo, mp, mi, trivial⟩ trivial (by kernel_rfl)
theorem r0_no (hi : E[i]? = some x) (hlt : i < n) (hk : (Int.tmod x.k 3 == 2) = false) (ck : checkS cap [] = true) (hc : 0 ≤ cap ∧ cap ≤ 65535) (h2 : itemOk x.it = true) (h3 : overS cap [] x.it = true) :
    CodeOk Try.prog none (lp Try.prog 6 8) (T8 cap nl nl (esl n c) n i) [] (B8 cap E nl) 8 ⟨.normal, (T8 cap nl nl (esl n c) n (IntKind.i64.wrap (i + 1))), [], B8 cap E nl, 10⟩ := by
  have mo := octets_nm ck 9
  have mp := memo_any (pushN_no ck h2 h3 (by rfl) (.bool true)) 9 (by kernel_rfl) rfl rfl
  have he := over_leq hc h3
  have hd : decide ((i : Int) < n) = true := decide_eq_true (by omega)
  obtain ⟨xk, x1, x2, x3, x4, x5⟩ := x
  exact code_k [1, 0] (hs := [(38, .val (.bool (decide ((i : Int) < n))) (.bool true)), (39, .ix 58 (esl n c) (.int .i64 i) _), (40, .ld 61 _ 0 (ecs E) true _), (44, .val (.bool (Int.tmod xk 3 == 2)) (.bool false)), (80, .call _), (87, .call _), (111, .val (.int .i64 (IntKind.i64.wrap cap)) (.int .i64 cap)), (112, .val (.bool (decide (IntKind.i64.wrap (sumW (·.left) [] 0 + x4) ≤ cap))) (.bool false))]) (ch := []) (evk 50) special ⟨congrArg Value.bool hd, ix58 hlt, ⟨ld61 hi, _, rfl⟩, congrArg Value.bool hk, mo, mp, congrArg (Value.int .i64) (conv_id hc), congrArg Value.bool he, trivial⟩ trivial (by kernel_rfl)
theorem r1_bad {l : List Pt} (hi : E[i]? = some x) (hlt : i < n) (hk : (Int.tmod x.k 3 == 2) = false) (hs : avL cs = true) (hl : l.length ≤ 999) (hh : Holds cs off l) (ck : checkS cap l = true) (h2 : itemOk x.it = false) :
    CodeOk Try.prog none (lp Try.prog 6 8) (T8 cap (isl 6 A) nl (esl n c) n i) [] ((G1 cap E cs off l.length A 5 6)) 8 ⟨.normal, (T8 cap (isl 6 A) nl (esl n c) n (IntKind.i64.wrap (i + 1))), [], (G1 cap E cs off l.length A 5 6), 10⟩ := by
  have mo := octets_m (c := oc7) hs (by omega) hh ck 5 9
  have mp := push_noB (c := oc7) hs (by omega) hh ck h2 rfl (by rfl) 5 9
  have mi := checkItem_m _ h2 10
  have hd : decide ((i : Int) < n) = true := decide_eq_true (by omega)
  obtain ⟨xk, x1, x2, x3, x4, x5⟩ := x
  exact code_k [5, 6, 1, 0] (hs := [(38, .val (.bool (decide ((i : Int) < n))) (.bool true)), (39, .ix 58 (esl n c) (.int .i64 i) _), (40, .ld 61 _ 0 (ecs E) true _), (44, .val (.bool (Int.tmod xk 3 == 2)) (.bool false)), (80, .call _), (87, .call _), (98, .call _)]) (ch := []) (evk 50) special ⟨congrArg Value.bool hd, ix58 hlt, ⟨ld61 hi, _, rfl⟩, congrArg Value.bool hk, mo, mp, mi, trivial⟩ trivial (by kernel_rfl)
theorem r1_no {l : List Pt} (hi : E[i]? = some x) (hlt : i < n) (hk : (Int.tmod x.k 3 == 2) = false) (hs : avL cs = true) (hl : l.length ≤ 999) (hh : Holds cs off l) (ck : checkS cap l = true) (hc : 0 ≤ cap ∧ cap ≤ 65535) (h2 : itemOk x.it = true) (h3 : overS cap l x.it = true) :
    CodeOk Try.prog none (lp Try.prog 6 8) (T8 cap (isl 6 A) nl (esl n c) n i) [] ((G1 cap E cs off l.length A 5 6)) 8 ⟨.normal, (T8 cap (isl 6 A) nl (esl n c) n (IntKind.i64.wrap (i + 1))), [], (G1 cap E cs off l.length A 5 6), 10⟩ := by
  have mo := octets_m (c := oc7) hs (by omega) hh ck 5 9
  have mp := push_noB (c := oc7) hs (by omega) hh ck h2 h3 (by rfl) 5 9
  have he := over_leq hc h3
  have hd : decide ((i : Int) < n) = true := decide_eq_true (by omega)
  obtain ⟨xk, x1, x2, x3, x4, x5⟩ := x
  exact code_k [5, 6, 1, 0] (hs := [(38, .val (.bool (decide ((i : Int) < n))) (.bool true)), (39, .ix 58 (esl n c) (.int .i64 i) _), (40, .ld 61 _ 0 (ecs E) true _), (44, .val (.bool (Int.tmod xk 3 == 2)) (.bool false)), (80, .call _), (87, .call _), (111, .val (.int .i64 (IntKind.i64.wrap cap)) (.int .i64 cap)), (112, .val (.bool (decide (IntKind.i64.wrap (sumW (·.left) l 0 + x4) ≤ cap))) (.bool false))]) (ch := []) (evk 50) special ⟨congrArg Value.bool hd, ix58 hlt, ⟨ld61 hi, _, rfl⟩, congrArg Value.bool hk, mo, mp, congrArg (Value.int .i64) (conv_id hc), congrArg Value.bool he, trivial⟩ trivial (by kernel_rfl)
theorem r2_bad {l : List Pt} (hi : E[i]? = some x) (hlt : i < n) (hk : (Int.tmod x.k 3 == 2) = false) (hs : avL cs = true) (hl : l.length ≤ 999) (hh : Holds cs off l) (ck : checkS cap l = true) (h2 : itemOk x.it = false) :
    CodeOk Try.prog none (lp Try.prog 6 8) (T8 cap (isl 6 A) (isl 7 P) (esl n c) n i) [] ((G2 cap E cs off l.length A P 5 6 7)) 8 ⟨.normal, (T8 cap (isl 6 A) (isl 7 P) (esl n c) n (IntKind.i64.wrap (i + 1))), [], (G2 cap E cs off l.length A P 5 6 7), 10⟩ := by
  have mo := octets_m (c := oc7) hs (by omega) hh ck 5 9
  have mp := push_noB (c := oc7) hs (by omega) hh ck h2 rfl (by rfl) 5 9
  have mi := checkItem_m _ h2 10
  have hd : decide ((i : Int) < n) = true := decide_eq_true (by omega)
  obtain ⟨xk, x1, x2, x3, x4, x5⟩ := x
  exact code_k [5, 6, 7, 1, 0] (hs := [(38, .val (.bool (decide ((i : Int) < n))) (.bool true)), (39, .ix 58 (esl n c) (.int .i64 i) _), (40, .ld 61 _ 0 (ecs E) true _), (44, .val (.bool (Int.tmod xk 3 == 2)) (.bool false)), (80, .call _), (87, .call _), (98, .call _)]) (ch := []) (evk 50) special ⟨congrArg Value.bool hd, ix58 hlt, ⟨ld61 hi, _, rfl⟩, congrArg Value.bool hk, mo, mp, mi, trivial⟩ trivial (by kernel_rfl)
theorem r2_no {l : List Pt} (hi : E[i]? = some x) (hlt : i < n) (hk : (Int.tmod x.k 3 == 2) = false) (hs : avL cs = true) (hl : l.length ≤ 999) (hh : Holds cs off l) (ck : checkS cap l = true) (hc : 0 ≤ cap ∧ cap ≤ 65535) (h2 : itemOk x.it = true) (h3 : overS cap l x.it = true) :
    CodeOk Try.prog none (lp Try.prog 6 8) (T8 cap (isl 6 A) (isl 7 P) (esl n c) n i) [] ((G2 cap E cs off l.length A P 5 6 7)) 8 ⟨.normal, (T8 cap (isl 6 A) (isl 7 P) (esl n c) n (IntKind.i64.wrap (i + 1))), [], (G2 cap E cs off l.length A P 5 6 7), 10⟩ := by
  have mo := octets_m (c := oc7) hs (by omega) hh ck 5 9
  have mp := push_noB (c := oc7) hs (by omega) hh ck h2 h3 (by rfl) 5 9
  have he := over_leq hc h3
  have hd : decide ((i : Int) < n) = true := decide_eq_true (by omega)
  obtain ⟨xk, x1, x2, x3, x4, x5⟩ := x
  exact code_k [5, 6, 7, 1, 0] (hs := [(38, .val (.bool (decide ((i : Int) < n))) (.bool true)), (39, .ix 58 (esl n c) (.int .i64 i) _), (40, .ld 61 _ 0 (ecs E) true _), (44, .val (.bool (Int.tmod xk 3 == 2)) (.bool false)), (80, .call _), (87, .call _), (111, .val (.int .i64 (IntKind.i64.wrap cap)) (.int .i64 cap)), (112, .val (.bool (decide (IntKind.i64.wrap (sumW (·.left) l 0 + x4) ≤ cap))) (.bool false))]) (ch := []) (evk 50) special ⟨congrArg Value.bool hd, ix58 hlt, ⟨ld61 hi, _, rfl⟩, congrArg Value.bool hk, mo, mp, congrArg (Value.int .i64) (conv_id hc), congrArg Value.bool he, trivial⟩ trivial (by kernel_rfl)
theorem r0_yes (hi : E[i]? = some x) (hlt : i < n) (hk : (Int.tmod x.k 3 == 2) = false) (ck : checkS cap [] = true) (hc : 0 ≤ cap ∧ cap ≤ 65535) (h2 : itemOk x.it = true) (h3 : overS cap [] x.it = false) :
    CodeOk Try.prog none (lp Try.prog 6 8) (T8 cap nl nl (esl n c) n i) [] (B8 cap E nl) 8 ⟨.normal, (T8 cap (isl 19 [x.it]) nl (esl n c) n (IntKind.i64.wrap (i + 1))), [], (G1 cap E (pcs [wholeP x.it]) 0 1 [x.it] 16 19), 20⟩ := by
  have mo := octets_nm ck 9
  have mp := memo_0N (pushN_yes ck h2 h3) (avL_pcs _) 9 (by kernel_rfl) rfl rfl rfl rfl
  have he := over_leq hc h3
  have hd : decide ((i : Int) < n) = true := decide_eq_true (by omega)
  obtain ⟨xk, x1, x2, x3, x4, x5⟩ := x
  exact code_k [16, 19, 1, 0] (hs := [(38, .val (.bool (decide ((i : Int) < n))) (.bool true)), (39, .ix 58 (esl n c) (.int .i64 i) _), (40, .ld 61 _ 0 (ecs E) true _), (44, .val (.bool (Int.tmod xk 3 == 2)) (.bool false)), (80, .call _), (87, .call _), (111, .val (.int .i64 (IntKind.i64.wrap cap)) (.int .i64 cap)), (112, .val (.bool (decide (IntKind.i64.wrap (sumW (·.left) [] 0 + x4) ≤ cap))) (.bool true))]) (ch := []) (evk 50) special ⟨congrArg Value.bool hd, ix58 hlt, ⟨ld61 hi, _, rfl⟩, congrArg Value.bool hk, mo, mp, congrArg (Value.int .i64) (conv_id hc), congrArg Value.bool he, trivial⟩ trivial (by kernel_rfl)
theorem r1_yes {l : List Pt} (hi : E[i]? = some x) (hlt : i < n) (hk : (Int.tmod x.k 3 == 2) = false) (hs : avL cs = true) (h0 : 0 < l.length) (hl : l.length ≤ 900) (hh : Holds cs off l) (ck : checkS cap l = true) (hA : A.length ≤ 900) (hc : 0 ≤ cap ∧ cap ≤ 65535) (h2 : itemOk x.it = true) (h3 : overS cap l x.it = false) :
    CodeOk Try.prog none (lp Try.prog 6 8) (T8 cap (isl 6 A) nl (esl n c) n i) [] ((G1 cap E cs off l.length A 5 6)) 8 ⟨.normal, (T8 cap (isl 19 (A ++ [x.it])) nl (esl n c) n (IntKind.i64.wrap (i + 1))), [], (G1 cap E (pcs l ++ pcs [wholeP x.it]) 0 (l.length + 1) (A ++ [x.it]) 16 19), 20⟩ := by
  have mo := octets_m (c := oc7) hs (by omega) hh ck 5 9
  have mp := push_yesB hs h0 (by omega) hh ck h2 h3 5 9
  have he := over_leq hc h3
  have ap := app_it (a := 6) (b := 18) (L := A) (x := x.it) hA
  have hd : decide ((i : Int) < n) = true := decide_eq_true (by omega)
  obtain ⟨xk, x1, x2, x3, x4, x5⟩ := x
  exact code_k [16, 19, 1, 0] (hs := [(38, .val (.bool (decide ((i : Int) < n))) (.bool true)), (39, .ix 58 (esl n c) (.int .i64 i) _), (40, .ld 61 _ 0 (ecs E) true _), (44, .val (.bool (Int.tmod xk 3 == 2)) (.bool false)), (80, .call _), (87, .call _), (111, .val (.int .i64 (IntKind.i64.wrap cap)) (.int .i64 cap)), (112, .val (.bool (decide (IntKind.i64.wrap (sumW (·.left) l 0 + x4) ≤ cap))) (.bool true)), (121, .app _ _ _ _ _ _ _ _)]) (ch := []) (evk 50) special ⟨congrArg Value.bool hd, ix58 hlt, ⟨ld61 hi, _, rfl⟩, congrArg Value.bool hk, mo, mp, congrArg (Value.int .i64) (conv_id hc), congrArg Value.bool he, ap, trivial⟩ trivial (by kernel_rfl)
theorem r2_yes {l : List Pt} (hi : E[i]? = some x) (hlt : i < n) (hk : (Int.tmod x.k 3 == 2) = false) (hs : avL cs = true) (h0 : 0 < l.length) (hl : l.length ≤ 900) (hh : Holds cs off l) (ck : checkS cap l = true) (hA : A.length ≤ 900) (hc : 0 ≤ cap ∧ cap ≤ 65535) (h2 : itemOk x.it = true) (h3 : overS cap l x.it = false) :
    CodeOk Try.prog none (lp Try.prog 6 8) (T8 cap (isl 6 A) (isl 7 P) (esl n c) n i) [] ((G2 cap E cs off l.length A P 5 6 7)) 8 ⟨.normal, (T8 cap (isl 19 (A ++ [x.it])) (isl 7 P) (esl n c) n (IntKind.i64.wrap (i + 1))), [], (G2 cap E (pcs l ++ pcs [wholeP x.it]) 0 (l.length + 1) (A ++ [x.it]) P 16 19 7), 20⟩ := by
  have mo := octets_m (c := oc7) hs (by omega) hh ck 5 9
  have mp := push_yesB hs h0 (by omega) hh ck h2 h3 5 9
  have he := over_leq hc h3
  have ap := app_it (a := 6) (b := 18) (L := A) (x := x.it) hA
  have hd : decide ((i : Int) < n) = true := decide_eq_true (by omega)
  obtain ⟨xk, x1, x2, x3, x4, x5⟩ := x
  exact code_k [16, 19, 7, 1, 0] (hs := [(38, .val (.bool (decide ((i : Int) < n))) (.bool true)), (39, .ix 58 (esl n c) (.int .i64 i) _), (40, .ld 61 _ 0 (ecs E) true _), (44, .val (.bool (Int.tmod xk 3 == 2)) (.bool false)), (80, .call _), (87, .call _), (111, .val (.int .i64 (IntKind.i64.wrap cap)) (.int .i64 cap)), (112, .val (.bool (decide (IntKind.i64.wrap (sumW (·.left) l 0 + x4) ≤ cap))) (.bool true)), (121, .app _ _ _ _ _ _ _ _)]) (ch := []) (evk 50) special ⟨congrArg Value.bool hd, ix58 hlt, ⟨ld61 hi, _, rfl⟩, congrArg Value.bool hk, mo, mp, congrArg (Value.int .i64) (conv_id hc), congrArg Value.bool he, ap, trivial⟩ trivial (by kernel_rfl)
theorem r0_pop (hi : E[i]? = some x) (hlt : i < n) (hk : (Int.tmod x.k 3 == 2) = true) (ck : checkS cap [] = true) :
    CodeOk Try.prog none (lp Try.prog 6 8) (T8 cap nl nl (esl n c) n i) [] (B8 cap E nl) 8 ⟨.normal, (T8 cap nl nl (esl n c) n (IntKind.i64.wrap (i + 1))), [], B8 cap E nl, 13⟩ := by
  have mq : Memo.Ok Try.prog ⟨24, 9, [q0 cap], [], popV true cap 0 0 [], [], 9⟩ := memo_any (pop_nil ck) 9 (by kernel_rfl) rfl rfl
  have hd : decide ((i : Int) < n) = true := decide_eq_true (by omega)
  obtain ⟨xk, x1, x2, x3, x4, x5⟩ := x
  exact code_k [1, 0] (hs := [(38, .val (.bool (decide ((i : Int) < n))) (.bool true)), (39, .ix 58 (esl n c) (.int .i64 i) _), (40, .ld 61 _ 0 (ecs E) true _), (44, .val (.bool (Int.tmod xk 3 == 2)) (.bool true)), (47, .call _)]) (ch := []) (evk 50) special ⟨congrArg Value.bool hd, ix58 hlt, ⟨ld61 hi, _, rfl⟩, congrArg Value.bool hk, mq, trivial⟩ trivial (by kernel_rfl)
theorem r1_pop (hi : E[i]? = some x) (hlt : i < n) {y : It} {m : List Pt} (hk : (Int.tmod x.k 3 == 2) = true) (hs : avL cs = true) (hl : (wholeP y :: m).length ≤ 900) (hh : Holds cs off (wholeP y :: m)) (ck : checkS cap (wholeP y :: m) = true) (hP : P.length ≤ 900) :
    CodeOk Try.prog none (lp Try.prog 6 8) (T8 cap (isl 6 A) nl (esl n c) n i) [] ((G1 cap E cs off (wholeP y :: m).length A 5 6)) 8 ⟨.normal, (T8 cap (isl 6 A) (isl 12 [y]) (esl n c) n (IntKind.i64.wrap (i + 1))), [], (G2 cap E cs (off + 7) m.length A [y] 5 6 12), 13⟩ := by
  have mq := pop_m (c := oc7) (cap := cap) hs (by omega) hh ck (fun h => slc_1o h (by omega)) 5 9
  obtain ⟨y1, y2, y3, y4, y5⟩ := y
  have hne : (y4 != y4) = false := by simp
  have hd : decide ((i : Int) < n) = true := decide_eq_true (by omega)
  obtain ⟨xk, x1, x2, x3, x4, x5⟩ := x
  exact code_k [5, 6, 12, 1, 0] (hs := [(38, .val (.bool (decide ((i : Int) < n))) (.bool true)), (39, .ix 58 (esl n c) (.int .i64 i) _), (40, .ld 61 _ 0 (ecs E) true _), (44, .val (.bool (Int.tmod xk 3 == 2)) (.bool true)), (47, .call _), (70, .val (.bool (y4 != y4)) (.bool false))]) (ch := []) (evk 50) special ⟨congrArg Value.bool hd, ix58 hlt, ⟨ld61 hi, _, rfl⟩, congrArg Value.bool hk, mq, congrArg Value.bool hne, trivial⟩ trivial (by kernel_rfl)
theorem r2_pop (hi : E[i]? = some x) (hlt : i < n) {y : It} {m : List Pt} (hk : (Int.tmod x.k 3 == 2) = true) (hs : avL cs = true) (hl : (wholeP y :: m).length ≤ 900) (hh : Holds cs off (wholeP y :: m)) (ck : checkS cap (wholeP y :: m) = true) (hP : P.length ≤ 900) :
    CodeOk Try.prog none (lp Try.prog 6 8) (T8 cap (isl 6 A) (isl 7 P) (esl n c) n i) [] ((G2 cap E cs off (wholeP y :: m).length A P 5 6 7)) 8 ⟨.normal, (T8 cap (isl 6 A) (isl 12 (P ++ [y])) (esl n c) n (IntKind.i64.wrap (i + 1))), [], (G2 cap E cs (off + 7) m.length A (P ++ [y]) 5 6 12), 13⟩ := by
  have mq := pop_m (c := oc7) (cap := cap) hs (by omega) hh ck (fun h => slc_1o h (by omega)) 5 9
  have ap := app_it (a := 7) (b := 11) (L := P) (x := y) hP
  obtain ⟨y1, y2, y3, y4, y5⟩ := y
  have hne : (y4 != y4) = false := by simp
  have hd : decide ((i : Int) < n) = true := decide_eq_true (by omega)
  obtain ⟨xk, x1, x2, x3, x4, x5⟩ := x
  exact code_k [5, 6, 12, 1, 0] (hs := [(38, .val (.bool (decide ((i : Int) < n))) (.bool true)), (39, .ix 58 (esl n c) (.int .i64 i) _), (40, .ld 61 _ 0 (ecs E) true _), (44, .val (.bool (Int.tmod xk 3 == 2)) (.bool true)), (47, .call _), (70, .val (.bool (y4 != y4)) (.bool false)), (77, .app _ _ _ _ _ _ _ _)]) (ch := []) (evk 50) special ⟨congrArg Value.bool hd, ix58 hlt, ⟨ld61 hi, _, rfl⟩, congrArg Value.bool hk, mq, congrArg Value.bool hne, ap, trivial⟩ trivial (by kernel_rfl)
theorem r2_none (hi : E[i]? = some x) (hlt : i < n) (hk : (Int.tmod x.k 3 == 2) = true) (hs : avL cs = true) (ck : checkS cap [] = true) (hAP : A.length = P.length) :
    CodeOk Try.prog none (lp Try.prog 6 8) (T8 cap (isl 6 A) (isl 7 P) (esl n c) n i) [] ((G2 cap E cs off 0 A P 5 6 7)) 8 ⟨.normal, (T8 cap (isl 6 A) (isl 7 P) (esl n c) n (IntKind.i64.wrap (i + 1))), [], (G2 cap E cs off 0 A P 5 6 7), 13⟩ := by
  have mq := pop_m (c := oc7) (cap := cap) (l := []) (off := off) (off' := 0) (c' := 0) hs (by simp) (fun i p h => by simp at h) ck (fun h => by simp at h) 5 9
  have hne : ((A.length : Int) != (P.length : Int)) = false := by rw [hAP]; simp
  have hd : decide ((i : Int) < n) = true := decide_eq_true (by omega)
  obtain ⟨xk, x1, x2, x3, x4, x5⟩ := x
  exact code_k [5, 6, 7, 1, 0] (hs := [(38, .val (.bool (decide ((i : Int) < n))) (.bool true)), (39, .ix 58 (esl n c) (.int .i64 i) _), (40, .ld 61 _ 0 (ecs E) true _), (44, .val (.bool (Int.tmod xk 3 == 2)) (.bool true)), (47, .call _), (60, .val (.bool ((A.length : Int) != (P.length : Int))) (.bool false))]) (ch := []) (evk 50) special ⟨congrArg Value.bool hd, ix58 hlt, ⟨ld61 hi, _, rfl⟩, congrArg Value.bool hk, mq, congrArg Value.bool hne, trivial⟩ trivial (by kernel_rfl)
def H21 (cap : Int) (E : List Sp) (cs : List Value) (off : Nat) (A P : List It) (x : Sp) : Hp := (8, .cells x.cells false) :: G2 cap E cs off 0 A P 5 6 7
def H22 (cap : Int) (E : List Sp) (off : Nat) (A P : List It) (x : Sp) : Hp := (16, .cells (pcs [wholeP x.it]) false) :: (8, .cells x.cells false) :: (6, .cells (ics A) false) :: (7, .cells (ics P) false) :: B8 cap E (qsl 5 off 0)
theorem push_e (hs : avL cs = true) (ck : checkS cap [] = true) (h2 : itemOk x.it = true) (h3 : overS cap [] x.it = false) :
    (∃ fn, Try.prog.funcs[21]? = some fn ∧ fn.body.isSome = true) ∧ CallOk Try.prog 21 [qv cap 5 off 0 oc7, x.it.v] (H21 cap E cs off A P x) 9 (.tuple #[qv cap 16 0 1 oc7, .bool true, .int .i64 0]) (H22 cap E off A P x) 17 := by
  have h0 : Holds cs off [] := fun i p h => by simp at h
  have m1 := check_m (c := oc7) (l := []) hs (by simp) h0 ck 5 12
  have m2 := checkItem_m _ h2 12
  have m3 := octL_m (c := oc7) (cap := cap) (l := []) hs (by simp) h0 5 13
  have m4 := whole_m x.it 15
  have a := app_open (a := 5) (b := 15) (cb := 1) (l := []) h0 (holds_1 (wholeP x.it)) (by simp) (by simp)
  obtain ⟨xk, x1, x2, x3, x4, x5⟩ := x
  exact call_k [] (hs := [(11, .call _), (17, .call _), (25, .call _), (32, .val (.bool (decide (IntKind.i64.wrap (sumW (·.left) [] 0 + x4) > cap))) (.bool false)), (47, .call _), (49, .app _ _ _ _ _ _ _ _)]) (ch := []) (evk 50) special
    ⟨m1, m2, m3, congrArg Value.bool h3, m4, a, trivial⟩ trivial (by kernel_rfl)
theorem r2_yesE (hi : E[i]? = some x) (hlt : i < n) (hk : (Int.tmod x.k 3 == 2) = false) (hs : avL cs = true) (ck : checkS cap [] = true) (hA : A.length ≤ 900) (hc : 0 ≤ cap ∧ cap ≤ 65535) (h2 : itemOk x.it = true) (h3 : overS cap [] x.it = false) :
    CodeOk Try.prog none (lp Try.prog 6 8) (T8 cap (isl 6 A) (isl 7 P) (esl n c) n i) [] ((G2 cap E cs off 0 A P 5 6 7)) 8 ⟨.normal, (T8 cap (isl 19 (A ++ [x.it])) (isl 7 P) (esl n c) n (IntKind.i64.wrap (i + 1))), [], (G2 cap E (pcs [wholeP x.it]) 0 1 (A ++ [x.it]) P 16 19 7), 20⟩ := by
  have mo := octets_m (c := oc7) (l := []) (off := off) hs (by simp) (fun i p h => by simp at h) ck 5 9
  have mp := any_call (o := opAt Try.prog 6 19 3) (cf := .func 21) (args := #[.tmp 84, .tmp 86]) (ats := #[24, 26]) special (by kernel_rfl) (push_e (E := E) (off := off) (A := A) (P := P) hs ck h2 h3)
  have he := over_leq hc h3
  have ap := app_it (a := 6) (b := 18) (L := A) (x := x.it) hA
  have hd : decide ((i : Int) < n) = true := decide_eq_true (by omega)
  obtain ⟨xk, x1, x2, x3, x4, x5⟩ := x
  exact code_k [16, 19, 7, 1, 0] (hs := [(38, .val (.bool (decide ((i : Int) < n))) (.bool true)), (39, .ix 58 (esl n c) (.int .i64 i) _), (40, .ld 61 _ 0 (ecs E) true _), (44, .val (.bool (Int.tmod xk 3 == 2)) (.bool false)), (80, .call _), (87, .any _ _ _ _ _ _ _), (111, .val (.int .i64 (IntKind.i64.wrap cap)) (.int .i64 cap)), (112, .val (.bool (decide (IntKind.i64.wrap (sumW (·.left) [] 0 + x4) ≤ cap))) (.bool true)), (121, .app _ _ _ _ _ _ _ _)]) (ch := []) (evk 50) special ⟨congrArg Value.bool hd, ix58 hlt, ⟨ld61 hi, _, rfl⟩, congrArg Value.bool hk, mo, mp, congrArg (Value.int .i64) (conv_id hc), congrArg Value.bool he, ap, trivial⟩ trivial (by kernel_rfl)
end
end Go.Proofs.Ytddhglcmfoopnaa.queue
