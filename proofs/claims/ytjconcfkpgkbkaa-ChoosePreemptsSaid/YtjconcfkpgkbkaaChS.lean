/- Contracts: the reference's Preempt. -/
import Derived.Test.YtjconcfkpgkbkaaChN
import Derived.Test.YtjconcfkpgkbkaaChR
namespace Go.Proofs.Ytjconcfkpgkbkaa.choose
open Go Go.En
set_option linter.unusedVariables false

def k0R (X : Cx) (b t : Int) : Int := W ((W (t - b)).tdiv X.per)
def k1R (X : Cx) (b t : Int) : Int := bif decide (W (k0R X b t * X.per) < W (t - b)) then W (k0R X b t + 1) else k0R X b t
def kR (X : Cx) (b t : Int) : Int := bif decide (k1R X b t < 64) then 64 else k1R X b t
def preRV (g : Bool) (e r : Int) : Value := .tuple #[.int .i64 (bif g then e else 0), .int .i64 (bif g then r else 0), .bool g]
theorem rpre_ff (X : Cx) (hk : chkG X.es X.cyc = true) (h8 : X.hs.length = 8) (hper : X.per ≠ 0) {o b t k : Int} {p6 q6 p7 q7 d3 g : Bool} (e1 : decide (W (k0R X b t * X.per) < W (t - b)) = false) (e2 : decide (k0R X b t < 64) = false) (hkk : k0R X b t = k)
    (e3 : eqPt (X.at_ 6) zp = p6) (e4 : fitsX X 6 (endW X b k) = q6) (e5 : eqPt (X.at_ 7) zp = p7) (e6 : fitsX X 7 (endW X b k) = q7) (e7 : decide (W (o - k) < 64) = d3) (e8 : (!d3 && ((!p7 && q7) || (!p6 && q6))) = g) : Memo.Ok Try.prog ⟨25, 2, [X.lv, X.hv 1, .int .i64 o, .int .i64 b, .int .i64 t], X.V 1, preRV g (endW X b k) (restW o k), [], 2⟩ := by
  have h6 : 6 < X.hs.length := by omega
  have h7 : 7 < X.hs.length := by omega
  have i6 := ix27 (b := 1) (c := X.k) h6
  have i7 := ix27 (b := 1) (c := X.k) h7
  have l6 : doLoad Try.prog [(1, .cells (pcs X.hs) true)] 57 (.pointer (some ⟨1, 0 + 6 * 7, none⟩)) = some (X.at_ 6).v := ld57 (b := 1) (ro := true) (pt_at h6)
  have l7 : doLoad Try.prog [(1, .cells (pcs X.hs) true)] 57 (.pointer (some ⟨1, 0 + 7 * 7, none⟩)) = some (X.at_ 7).v := ld57 (b := 1) (ro := true) (pt_at h7)
  have b1 := fun xo yo => quo_bin (P := Try.prog) (t := 3) (k := .i64) (a := W (t - b)) hper xo yo
  subst e8
  have m6 := none_m (X.at_ 6) e3 3
  have m7 := none_m (X.at_ 7) e5 3
  have n6 := rfitsX_m X hk e4 3
  have n7 := rfitsX_m X hk e6 3
  generalize X.at_ 6 = x at m6 n6 l6
  generalize X.at_ 7 = y at m7 n7 l7
  obtain ⟨⟨x1, x2, x3, x4, x5⟩, x6, x7⟩ := x
  obtain ⟨⟨y1, y2, y3, y4, y5⟩, y6, y7⟩ := y
  cases p6
  · cases p7
    · cases q6 <;> cases q7 <;> cases d3 <;> exact memo_pure (hs := [(5, .frz), (22, .bin .quo 3 _ _ _), (30, .val (.bool (decide (W (k0R X b t * X.per) < W (t - b)))) (.bool _)), (34, .val (.bool (decide (k0R X b t < 64))) (.bool _)), (36, .val (.int .i64 (k0R X b t)) (.int .i64 k)), (43, .ix 27 (X.hv 1) (.int .i64 (6 : Nat)) _), (44, .ld 57 _ 1 (pcs X.hs) true _), (45, .call _), (50, .ix 27 (X.hv 1) (.int .i64 (6 : Nat)) _), (51, .ld 57 _ 1 (pcs X.hs) true _), (53, .call _), (56, .ix 27 (X.hv 1) (.int .i64 (7 : Nat)) _), (57, .ld 57 _ 1 (pcs X.hs) true _), (58, .call _), (63, .ix 27 (X.hv 1) (.int .i64 (7 : Nat)) _), (64, .ld 57 _ 1 (pcs X.hs) true _), (66, .call _), (69, .val (.int .i64 (k0R X b t)) (.int .i64 k)), (71, .val (.bool (decide (W (o - k) < 64))) (.bool _)), (82, .val (.int .i64 (k0R X b t)) (.int .i64 k))]) (ch := []) 3 (evk 50) special ⟨trivial, b1, congrArg Value.bool e1, congrArg Value.bool e2, congrArg (Value.int .i64) hkk, i6, ⟨l6, _, rfl⟩, m6, i6, ⟨l6, _, rfl⟩, n6, i7, ⟨l7, _, rfl⟩, m7, i7, ⟨l7, _, rfl⟩, n7, congrArg (Value.int .i64) hkk, congrArg Value.bool e7, congrArg (Value.int .i64) hkk, trivial⟩ trivial (by kernel_rfl) (X.smallH 2 1) (by kernel_rfl)
    · simp only [Bool.not_true, Bool.false_and, Bool.false_or]
      cases q6 <;> cases d3 <;> exact memo_pure (hs := [(5, .frz), (22, .bin .quo 3 _ _ _), (30, .val (.bool (decide (W (k0R X b t * X.per) < W (t - b)))) (.bool _)), (34, .val (.bool (decide (k0R X b t < 64))) (.bool _)), (36, .val (.int .i64 (k0R X b t)) (.int .i64 k)), (43, .ix 27 (X.hv 1) (.int .i64 (6 : Nat)) _), (44, .ld 57 _ 1 (pcs X.hs) true _), (45, .call _), (50, .ix 27 (X.hv 1) (.int .i64 (6 : Nat)) _), (51, .ld 57 _ 1 (pcs X.hs) true _), (53, .call _), (56, .ix 27 (X.hv 1) (.int .i64 (7 : Nat)) _), (57, .ld 57 _ 1 (pcs X.hs) true _), (58, .call _), (69, .val (.int .i64 (k0R X b t)) (.int .i64 k)), (71, .val (.bool (decide (W (o - k) < 64))) (.bool _)), (82, .val (.int .i64 (k0R X b t)) (.int .i64 k))]) (ch := []) 3 (evk 50) special ⟨trivial, b1, congrArg Value.bool e1, congrArg Value.bool e2, congrArg (Value.int .i64) hkk, i6, ⟨l6, _, rfl⟩, m6, i6, ⟨l6, _, rfl⟩, n6, i7, ⟨l7, _, rfl⟩, m7, congrArg (Value.int .i64) hkk, congrArg Value.bool e7, congrArg (Value.int .i64) hkk, trivial⟩ trivial (by kernel_rfl) (X.smallH 2 1) (by kernel_rfl)
  · cases p7
    · simp only [Bool.not_true, Bool.false_and, Bool.or_false]
      cases q7 <;> cases d3 <;> exact memo_pure (hs := [(5, .frz), (22, .bin .quo 3 _ _ _), (30, .val (.bool (decide (W (k0R X b t * X.per) < W (t - b)))) (.bool _)), (34, .val (.bool (decide (k0R X b t < 64))) (.bool _)), (36, .val (.int .i64 (k0R X b t)) (.int .i64 k)), (43, .ix 27 (X.hv 1) (.int .i64 (6 : Nat)) _), (44, .ld 57 _ 1 (pcs X.hs) true _), (45, .call _), (56, .ix 27 (X.hv 1) (.int .i64 (7 : Nat)) _), (57, .ld 57 _ 1 (pcs X.hs) true _), (58, .call _), (63, .ix 27 (X.hv 1) (.int .i64 (7 : Nat)) _), (64, .ld 57 _ 1 (pcs X.hs) true _), (66, .call _), (69, .val (.int .i64 (k0R X b t)) (.int .i64 k)), (71, .val (.bool (decide (W (o - k) < 64))) (.bool _)), (82, .val (.int .i64 (k0R X b t)) (.int .i64 k))]) (ch := []) 3 (evk 50) special ⟨trivial, b1, congrArg Value.bool e1, congrArg Value.bool e2, congrArg (Value.int .i64) hkk, i6, ⟨l6, _, rfl⟩, m6, i7, ⟨l7, _, rfl⟩, m7, i7, ⟨l7, _, rfl⟩, n7, congrArg (Value.int .i64) hkk, congrArg Value.bool e7, congrArg (Value.int .i64) hkk, trivial⟩ trivial (by kernel_rfl) (X.smallH 2 1) (by kernel_rfl)
    · simp only [Bool.not_true, Bool.false_and, Bool.or_false, Bool.and_false]
      cases d3 <;> exact memo_pure (hs := [(5, .frz), (22, .bin .quo 3 _ _ _), (30, .val (.bool (decide (W (k0R X b t * X.per) < W (t - b)))) (.bool _)), (34, .val (.bool (decide (k0R X b t < 64))) (.bool _)), (36, .val (.int .i64 (k0R X b t)) (.int .i64 k)), (43, .ix 27 (X.hv 1) (.int .i64 (6 : Nat)) _), (44, .ld 57 _ 1 (pcs X.hs) true _), (45, .call _), (56, .ix 27 (X.hv 1) (.int .i64 (7 : Nat)) _), (57, .ld 57 _ 1 (pcs X.hs) true _), (58, .call _), (69, .val (.int .i64 (k0R X b t)) (.int .i64 k)), (71, .val (.bool (decide (W (o - k) < 64))) (.bool _)), (82, .val (.int .i64 (k0R X b t)) (.int .i64 k))]) (ch := []) 3 (evk 50) special ⟨trivial, b1, congrArg Value.bool e1, congrArg Value.bool e2, congrArg (Value.int .i64) hkk, i6, ⟨l6, _, rfl⟩, m6, i7, ⟨l7, _, rfl⟩, m7, congrArg (Value.int .i64) hkk, congrArg Value.bool e7, congrArg (Value.int .i64) hkk, trivial⟩ trivial (by kernel_rfl) (X.smallH 2 1) (by kernel_rfl)
theorem rpre_ft (X : Cx) (hk : chkG X.es X.cyc = true) (h8 : X.hs.length = 8) (hper : X.per ≠ 0) {o b t k : Int} {p6 q6 p7 q7 d3 g : Bool} (e1 : decide (W (k0R X b t * X.per) < W (t - b)) = false) (e2 : decide (k0R X b t < 64) = true) (hkk : 64 = k)
    (e3 : eqPt (X.at_ 6) zp = p6) (e4 : fitsX X 6 (endW X b k) = q6) (e5 : eqPt (X.at_ 7) zp = p7) (e6 : fitsX X 7 (endW X b k) = q7) (e7 : decide (W (o - k) < 64) = d3) (e8 : (!d3 && ((!p7 && q7) || (!p6 && q6))) = g) : Memo.Ok Try.prog ⟨25, 2, [X.lv, X.hv 1, .int .i64 o, .int .i64 b, .int .i64 t], X.V 1, preRV g (endW X b k) (restW o k), [], 2⟩ := by
  have h6 : 6 < X.hs.length := by omega
  have h7 : 7 < X.hs.length := by omega
  have i6 := ix27 (b := 1) (c := X.k) h6
  have i7 := ix27 (b := 1) (c := X.k) h7
  have l6 : doLoad Try.prog [(1, .cells (pcs X.hs) true)] 57 (.pointer (some ⟨1, 0 + 6 * 7, none⟩)) = some (X.at_ 6).v := ld57 (b := 1) (ro := true) (pt_at h6)
  have l7 : doLoad Try.prog [(1, .cells (pcs X.hs) true)] 57 (.pointer (some ⟨1, 0 + 7 * 7, none⟩)) = some (X.at_ 7).v := ld57 (b := 1) (ro := true) (pt_at h7)
  have b1 := fun xo yo => quo_bin (P := Try.prog) (t := 3) (k := .i64) (a := W (t - b)) hper xo yo
  subst e8
  have m6 := none_m (X.at_ 6) e3 3
  have m7 := none_m (X.at_ 7) e5 3
  have n6 := rfitsX_m X hk e4 3
  have n7 := rfitsX_m X hk e6 3
  generalize X.at_ 6 = x at m6 n6 l6
  generalize X.at_ 7 = y at m7 n7 l7
  obtain ⟨⟨x1, x2, x3, x4, x5⟩, x6, x7⟩ := x
  obtain ⟨⟨y1, y2, y3, y4, y5⟩, y6, y7⟩ := y
  cases p6
  · cases p7
    · cases q6 <;> cases q7 <;> cases d3 <;> exact memo_pure (hs := [(5, .frz), (22, .bin .quo 3 _ _ _), (30, .val (.bool (decide (W (k0R X b t * X.per) < W (t - b)))) (.bool _)), (34, .val (.bool (decide (k0R X b t < 64))) (.bool _)), (36, .val (.int .i64 (64)) (.int .i64 k)), (43, .ix 27 (X.hv 1) (.int .i64 (6 : Nat)) _), (44, .ld 57 _ 1 (pcs X.hs) true _), (45, .call _), (50, .ix 27 (X.hv 1) (.int .i64 (6 : Nat)) _), (51, .ld 57 _ 1 (pcs X.hs) true _), (53, .call _), (56, .ix 27 (X.hv 1) (.int .i64 (7 : Nat)) _), (57, .ld 57 _ 1 (pcs X.hs) true _), (58, .call _), (63, .ix 27 (X.hv 1) (.int .i64 (7 : Nat)) _), (64, .ld 57 _ 1 (pcs X.hs) true _), (66, .call _), (69, .val (.int .i64 (64)) (.int .i64 k)), (71, .val (.bool (decide (W (o - k) < 64))) (.bool _)), (82, .val (.int .i64 (64)) (.int .i64 k))]) (ch := []) 3 (evk 50) special ⟨trivial, b1, congrArg Value.bool e1, congrArg Value.bool e2, congrArg (Value.int .i64) hkk, i6, ⟨l6, _, rfl⟩, m6, i6, ⟨l6, _, rfl⟩, n6, i7, ⟨l7, _, rfl⟩, m7, i7, ⟨l7, _, rfl⟩, n7, congrArg (Value.int .i64) hkk, congrArg Value.bool e7, congrArg (Value.int .i64) hkk, trivial⟩ trivial (by kernel_rfl) (X.smallH 2 1) (by kernel_rfl)
    · simp only [Bool.not_true, Bool.false_and, Bool.false_or]
      cases q6 <;> cases d3 <;> exact memo_pure (hs := [(5, .frz), (22, .bin .quo 3 _ _ _), (30, .val (.bool (decide (W (k0R X b t * X.per) < W (t - b)))) (.bool _)), (34, .val (.bool (decide (k0R X b t < 64))) (.bool _)), (36, .val (.int .i64 (64)) (.int .i64 k)), (43, .ix 27 (X.hv 1) (.int .i64 (6 : Nat)) _), (44, .ld 57 _ 1 (pcs X.hs) true _), (45, .call _), (50, .ix 27 (X.hv 1) (.int .i64 (6 : Nat)) _), (51, .ld 57 _ 1 (pcs X.hs) true _), (53, .call _), (56, .ix 27 (X.hv 1) (.int .i64 (7 : Nat)) _), (57, .ld 57 _ 1 (pcs X.hs) true _), (58, .call _), (69, .val (.int .i64 (64)) (.int .i64 k)), (71, .val (.bool (decide (W (o - k) < 64))) (.bool _)), (82, .val (.int .i64 (64)) (.int .i64 k))]) (ch := []) 3 (evk 50) special ⟨trivial, b1, congrArg Value.bool e1, congrArg Value.bool e2, congrArg (Value.int .i64) hkk, i6, ⟨l6, _, rfl⟩, m6, i6, ⟨l6, _, rfl⟩, n6, i7, ⟨l7, _, rfl⟩, m7, congrArg (Value.int .i64) hkk, congrArg Value.bool e7, congrArg (Value.int .i64) hkk, trivial⟩ trivial (by kernel_rfl) (X.smallH 2 1) (by kernel_rfl)
  · cases p7
    · simp only [Bool.not_true, Bool.false_and, Bool.or_false]
      cases q7 <;> cases d3 <;> exact memo_pure (hs := [(5, .frz), (22, .bin .quo 3 _ _ _), (30, .val (.bool (decide (W (k0R X b t * X.per) < W (t - b)))) (.bool _)), (34, .val (.bool (decide (k0R X b t < 64))) (.bool _)), (36, .val (.int .i64 (64)) (.int .i64 k)), (43, .ix 27 (X.hv 1) (.int .i64 (6 : Nat)) _), (44, .ld 57 _ 1 (pcs X.hs) true _), (45, .call _), (56, .ix 27 (X.hv 1) (.int .i64 (7 : Nat)) _), (57, .ld 57 _ 1 (pcs X.hs) true _), (58, .call _), (63, .ix 27 (X.hv 1) (.int .i64 (7 : Nat)) _), (64, .ld 57 _ 1 (pcs X.hs) true _), (66, .call _), (69, .val (.int .i64 (64)) (.int .i64 k)), (71, .val (.bool (decide (W (o - k) < 64))) (.bool _)), (82, .val (.int .i64 (64)) (.int .i64 k))]) (ch := []) 3 (evk 50) special ⟨trivial, b1, congrArg Value.bool e1, congrArg Value.bool e2, congrArg (Value.int .i64) hkk, i6, ⟨l6, _, rfl⟩, m6, i7, ⟨l7, _, rfl⟩, m7, i7, ⟨l7, _, rfl⟩, n7, congrArg (Value.int .i64) hkk, congrArg Value.bool e7, congrArg (Value.int .i64) hkk, trivial⟩ trivial (by kernel_rfl) (X.smallH 2 1) (by kernel_rfl)
    · simp only [Bool.not_true, Bool.false_and, Bool.or_false, Bool.and_false]
      cases d3 <;> exact memo_pure (hs := [(5, .frz), (22, .bin .quo 3 _ _ _), (30, .val (.bool (decide (W (k0R X b t * X.per) < W (t - b)))) (.bool _)), (34, .val (.bool (decide (k0R X b t < 64))) (.bool _)), (36, .val (.int .i64 (64)) (.int .i64 k)), (43, .ix 27 (X.hv 1) (.int .i64 (6 : Nat)) _), (44, .ld 57 _ 1 (pcs X.hs) true _), (45, .call _), (56, .ix 27 (X.hv 1) (.int .i64 (7 : Nat)) _), (57, .ld 57 _ 1 (pcs X.hs) true _), (58, .call _), (69, .val (.int .i64 (64)) (.int .i64 k)), (71, .val (.bool (decide (W (o - k) < 64))) (.bool _)), (82, .val (.int .i64 (64)) (.int .i64 k))]) (ch := []) 3 (evk 50) special ⟨trivial, b1, congrArg Value.bool e1, congrArg Value.bool e2, congrArg (Value.int .i64) hkk, i6, ⟨l6, _, rfl⟩, m6, i7, ⟨l7, _, rfl⟩, m7, congrArg (Value.int .i64) hkk, congrArg Value.bool e7, congrArg (Value.int .i64) hkk, trivial⟩ trivial (by kernel_rfl) (X.smallH 2 1) (by kernel_rfl)
theorem rpre_tf (X : Cx) (hk : chkG X.es X.cyc = true) (h8 : X.hs.length = 8) (hper : X.per ≠ 0) {o b t k : Int} {p6 q6 p7 q7 d3 g : Bool} (e1 : decide (W (k0R X b t * X.per) < W (t - b)) = true) (e2 : decide (W (k0R X b t + 1) < 64) = false) (hkk : W (k0R X b t + 1) = k)
    (e3 : eqPt (X.at_ 6) zp = p6) (e4 : fitsX X 6 (endW X b k) = q6) (e5 : eqPt (X.at_ 7) zp = p7) (e6 : fitsX X 7 (endW X b k) = q7) (e7 : decide (W (o - k) < 64) = d3) (e8 : (!d3 && ((!p7 && q7) || (!p6 && q6))) = g) : Memo.Ok Try.prog ⟨25, 2, [X.lv, X.hv 1, .int .i64 o, .int .i64 b, .int .i64 t], X.V 1, preRV g (endW X b k) (restW o k), [], 2⟩ := by
  have h6 : 6 < X.hs.length := by omega
  have h7 : 7 < X.hs.length := by omega
  have i6 := ix27 (b := 1) (c := X.k) h6
  have i7 := ix27 (b := 1) (c := X.k) h7
  have l6 : doLoad Try.prog [(1, .cells (pcs X.hs) true)] 57 (.pointer (some ⟨1, 0 + 6 * 7, none⟩)) = some (X.at_ 6).v := ld57 (b := 1) (ro := true) (pt_at h6)
  have l7 : doLoad Try.prog [(1, .cells (pcs X.hs) true)] 57 (.pointer (some ⟨1, 0 + 7 * 7, none⟩)) = some (X.at_ 7).v := ld57 (b := 1) (ro := true) (pt_at h7)
  have b1 := fun xo yo => quo_bin (P := Try.prog) (t := 3) (k := .i64) (a := W (t - b)) hper xo yo
  subst e8
  have m6 := none_m (X.at_ 6) e3 3
  have m7 := none_m (X.at_ 7) e5 3
  have n6 := rfitsX_m X hk e4 3
  have n7 := rfitsX_m X hk e6 3
  generalize X.at_ 6 = x at m6 n6 l6
  generalize X.at_ 7 = y at m7 n7 l7
  obtain ⟨⟨x1, x2, x3, x4, x5⟩, x6, x7⟩ := x
  obtain ⟨⟨y1, y2, y3, y4, y5⟩, y6, y7⟩ := y
  cases p6
  · cases p7
    · cases q6 <;> cases q7 <;> cases d3 <;> exact memo_pure (hs := [(5, .frz), (22, .bin .quo 3 _ _ _), (30, .val (.bool (decide (W (k0R X b t * X.per) < W (t - b)))) (.bool _)), (34, .val (.bool (decide (W (k0R X b t + 1) < 64))) (.bool _)), (36, .val (.int .i64 (W (k0R X b t + 1))) (.int .i64 k)), (43, .ix 27 (X.hv 1) (.int .i64 (6 : Nat)) _), (44, .ld 57 _ 1 (pcs X.hs) true _), (45, .call _), (50, .ix 27 (X.hv 1) (.int .i64 (6 : Nat)) _), (51, .ld 57 _ 1 (pcs X.hs) true _), (53, .call _), (56, .ix 27 (X.hv 1) (.int .i64 (7 : Nat)) _), (57, .ld 57 _ 1 (pcs X.hs) true _), (58, .call _), (63, .ix 27 (X.hv 1) (.int .i64 (7 : Nat)) _), (64, .ld 57 _ 1 (pcs X.hs) true _), (66, .call _), (69, .val (.int .i64 (W (k0R X b t + 1))) (.int .i64 k)), (71, .val (.bool (decide (W (o - k) < 64))) (.bool _)), (82, .val (.int .i64 (W (k0R X b t + 1))) (.int .i64 k))]) (ch := []) 3 (evk 50) special ⟨trivial, b1, congrArg Value.bool e1, congrArg Value.bool e2, congrArg (Value.int .i64) hkk, i6, ⟨l6, _, rfl⟩, m6, i6, ⟨l6, _, rfl⟩, n6, i7, ⟨l7, _, rfl⟩, m7, i7, ⟨l7, _, rfl⟩, n7, congrArg (Value.int .i64) hkk, congrArg Value.bool e7, congrArg (Value.int .i64) hkk, trivial⟩ trivial (by kernel_rfl) (X.smallH 2 1) (by kernel_rfl)
    · simp only [Bool.not_true, Bool.false_and, Bool.false_or]
      cases q6 <;> cases d3 <;> exact memo_pure (hs := [(5, .frz), (22, .bin .quo 3 _ _ _), (30, .val (.bool (decide (W (k0R X b t * X.per) < W (t - b)))) (.bool _)), (34, .val (.bool (decide (W (k0R X b t + 1) < 64))) (.bool _)), (36, .val (.int .i64 (W (k0R X b t + 1))) (.int .i64 k)), (43, .ix 27 (X.hv 1) (.int .i64 (6 : Nat)) _), (44, .ld 57 _ 1 (pcs X.hs) true _), (45, .call _), (50, .ix 27 (X.hv 1) (.int .i64 (6 : Nat)) _), (51, .ld 57 _ 1 (pcs X.hs) true _), (53, .call _), (56, .ix 27 (X.hv 1) (.int .i64 (7 : Nat)) _), (57, .ld 57 _ 1 (pcs X.hs) true _), (58, .call _), (69, .val (.int .i64 (W (k0R X b t + 1))) (.int .i64 k)), (71, .val (.bool (decide (W (o - k) < 64))) (.bool _)), (82, .val (.int .i64 (W (k0R X b t + 1))) (.int .i64 k))]) (ch := []) 3 (evk 50) special ⟨trivial, b1, congrArg Value.bool e1, congrArg Value.bool e2, congrArg (Value.int .i64) hkk, i6, ⟨l6, _, rfl⟩, m6, i6, ⟨l6, _, rfl⟩, n6, i7, ⟨l7, _, rfl⟩, m7, congrArg (Value.int .i64) hkk, congrArg Value.bool e7, congrArg (Value.int .i64) hkk, trivial⟩ trivial (by kernel_rfl) (X.smallH 2 1) (by kernel_rfl)
  · cases p7
    · simp only [Bool.not_true, Bool.false_and, Bool.or_false]
      cases q7 <;> cases d3 <;> exact memo_pure (hs := [(5, .frz), (22, .bin .quo 3 _ _ _), (30, .val (.bool (decide (W (k0R X b t * X.per) < W (t - b)))) (.bool _)), (34, .val (.bool (decide (W (k0R X b t + 1) < 64))) (.bool _)), (36, .val (.int .i64 (W (k0R X b t + 1))) (.int .i64 k)), (43, .ix 27 (X.hv 1) (.int .i64 (6 : Nat)) _), (44, .ld 57 _ 1 (pcs X.hs) true _), (45, .call _), (56, .ix 27 (X.hv 1) (.int .i64 (7 : Nat)) _), (57, .ld 57 _ 1 (pcs X.hs) true _), (58, .call _), (63, .ix 27 (X.hv 1) (.int .i64 (7 : Nat)) _), (64, .ld 57 _ 1 (pcs X.hs) true _), (66, .call _), (69, .val (.int .i64 (W (k0R X b t + 1))) (.int .i64 k)), (71, .val (.bool (decide (W (o - k) < 64))) (.bool _)), (82, .val (.int .i64 (W (k0R X b t + 1))) (.int .i64 k))]) (ch := []) 3 (evk 50) special ⟨trivial, b1, congrArg Value.bool e1, congrArg Value.bool e2, congrArg (Value.int .i64) hkk, i6, ⟨l6, _, rfl⟩, m6, i7, ⟨l7, _, rfl⟩, m7, i7, ⟨l7, _, rfl⟩, n7, congrArg (Value.int .i64) hkk, congrArg Value.bool e7, congrArg (Value.int .i64) hkk, trivial⟩ trivial (by kernel_rfl) (X.smallH 2 1) (by kernel_rfl)
    · simp only [Bool.not_true, Bool.false_and, Bool.or_false, Bool.and_false]
      cases d3 <;> exact memo_pure (hs := [(5, .frz), (22, .bin .quo 3 _ _ _), (30, .val (.bool (decide (W (k0R X b t * X.per) < W (t - b)))) (.bool _)), (34, .val (.bool (decide (W (k0R X b t + 1) < 64))) (.bool _)), (36, .val (.int .i64 (W (k0R X b t + 1))) (.int .i64 k)), (43, .ix 27 (X.hv 1) (.int .i64 (6 : Nat)) _), (44, .ld 57 _ 1 (pcs X.hs) true _), (45, .call _), (56, .ix 27 (X.hv 1) (.int .i64 (7 : Nat)) _), (57, .ld 57 _ 1 (pcs X.hs) true _), (58, .call _), (69, .val (.int .i64 (W (k0R X b t + 1))) (.int .i64 k)), (71, .val (.bool (decide (W (o - k) < 64))) (.bool _)), (82, .val (.int .i64 (W (k0R X b t + 1))) (.int .i64 k))]) (ch := []) 3 (evk 50) special ⟨trivial, b1, congrArg Value.bool e1, congrArg Value.bool e2, congrArg (Value.int .i64) hkk, i6, ⟨l6, _, rfl⟩, m6, i7, ⟨l7, _, rfl⟩, m7, congrArg (Value.int .i64) hkk, congrArg Value.bool e7, congrArg (Value.int .i64) hkk, trivial⟩ trivial (by kernel_rfl) (X.smallH 2 1) (by kernel_rfl)
theorem rpre_tt (X : Cx) (hk : chkG X.es X.cyc = true) (h8 : X.hs.length = 8) (hper : X.per ≠ 0) {o b t k : Int} {p6 q6 p7 q7 d3 g : Bool} (e1 : decide (W (k0R X b t * X.per) < W (t - b)) = true) (e2 : decide (W (k0R X b t + 1) < 64) = true) (hkk : 64 = k)
    (e3 : eqPt (X.at_ 6) zp = p6) (e4 : fitsX X 6 (endW X b k) = q6) (e5 : eqPt (X.at_ 7) zp = p7) (e6 : fitsX X 7 (endW X b k) = q7) (e7 : decide (W (o - k) < 64) = d3) (e8 : (!d3 && ((!p7 && q7) || (!p6 && q6))) = g) : Memo.Ok Try.prog ⟨25, 2, [X.lv, X.hv 1, .int .i64 o, .int .i64 b, .int .i64 t], X.V 1, preRV g (endW X b k) (restW o k), [], 2⟩ := by
  have h6 : 6 < X.hs.length := by omega
  have h7 : 7 < X.hs.length := by omega
  have i6 := ix27 (b := 1) (c := X.k) h6
  have i7 := ix27 (b := 1) (c := X.k) h7
  have l6 : doLoad Try.prog [(1, .cells (pcs X.hs) true)] 57 (.pointer (some ⟨1, 0 + 6 * 7, none⟩)) = some (X.at_ 6).v := ld57 (b := 1) (ro := true) (pt_at h6)
  have l7 : doLoad Try.prog [(1, .cells (pcs X.hs) true)] 57 (.pointer (some ⟨1, 0 + 7 * 7, none⟩)) = some (X.at_ 7).v := ld57 (b := 1) (ro := true) (pt_at h7)
  have b1 := fun xo yo => quo_bin (P := Try.prog) (t := 3) (k := .i64) (a := W (t - b)) hper xo yo
  subst e8
  have m6 := none_m (X.at_ 6) e3 3
  have m7 := none_m (X.at_ 7) e5 3
  have n6 := rfitsX_m X hk e4 3
  have n7 := rfitsX_m X hk e6 3
  generalize X.at_ 6 = x at m6 n6 l6
  generalize X.at_ 7 = y at m7 n7 l7
  obtain ⟨⟨x1, x2, x3, x4, x5⟩, x6, x7⟩ := x
  obtain ⟨⟨y1, y2, y3, y4, y5⟩, y6, y7⟩ := y
  cases p6
  · cases p7
    · cases q6 <;> cases q7 <;> cases d3 <;> exact memo_pure (hs := [(5, .frz), (22, .bin .quo 3 _ _ _), (30, .val (.bool (decide (W (k0R X b t * X.per) < W (t - b)))) (.bool _)), (34, .val (.bool (decide (W (k0R X b t + 1) < 64))) (.bool _)), (36, .val (.int .i64 (64)) (.int .i64 k)), (43, .ix 27 (X.hv 1) (.int .i64 (6 : Nat)) _), (44, .ld 57 _ 1 (pcs X.hs) true _), (45, .call _), (50, .ix 27 (X.hv 1) (.int .i64 (6 : Nat)) _), (51, .ld 57 _ 1 (pcs X.hs) true _), (53, .call _), (56, .ix 27 (X.hv 1) (.int .i64 (7 : Nat)) _), (57, .ld 57 _ 1 (pcs X.hs) true _), (58, .call _), (63, .ix 27 (X.hv 1) (.int .i64 (7 : Nat)) _), (64, .ld 57 _ 1 (pcs X.hs) true _), (66, .call _), (69, .val (.int .i64 (64)) (.int .i64 k)), (71, .val (.bool (decide (W (o - k) < 64))) (.bool _)), (82, .val (.int .i64 (64)) (.int .i64 k))]) (ch := []) 3 (evk 50) special ⟨trivial, b1, congrArg Value.bool e1, congrArg Value.bool e2, congrArg (Value.int .i64) hkk, i6, ⟨l6, _, rfl⟩, m6, i6, ⟨l6, _, rfl⟩, n6, i7, ⟨l7, _, rfl⟩, m7, i7, ⟨l7, _, rfl⟩, n7, congrArg (Value.int .i64) hkk, congrArg Value.bool e7, congrArg (Value.int .i64) hkk, trivial⟩ trivial (by kernel_rfl) (X.smallH 2 1) (by kernel_rfl)
    · simp only [Bool.not_true, Bool.false_and, Bool.false_or]
      cases q6 <;> cases d3 <;> exact memo_pure (hs := [(5, .frz), (22, .bin .quo 3 _ _ _), (30, .val (.bool (decide (W (k0R X b t * X.per) < W (t - b)))) (.bool _)), (34, .val (.bool (decide (W (k0R X b t + 1) < 64))) (.bool _)), (36, .val (.int .i64 (64)) (.int .i64 k)), (43, .ix 27 (X.hv 1) (.int .i64 (6 : Nat)) _), (44, .ld 57 _ 1 (pcs X.hs) true _), (45, .call _), (50, .ix 27 (X.hv 1) (.int .i64 (6 : Nat)) _), (51, .ld 57 _ 1 (pcs X.hs) true _), (53, .call _), (56, .ix 27 (X.hv 1) (.int .i64 (7 : Nat)) _), (57, .ld 57 _ 1 (pcs X.hs) true _), (58, .call _), (69, .val (.int .i64 (64)) (.int .i64 k)), (71, .val (.bool (decide (W (o - k) < 64))) (.bool _)), (82, .val (.int .i64 (64)) (.int .i64 k))]) (ch := []) 3 (evk 50) special ⟨trivial, b1, congrArg Value.bool e1, congrArg Value.bool e2, congrArg (Value.int .i64) hkk, i6, ⟨l6, _, rfl⟩, m6, i6, ⟨l6, _, rfl⟩, n6, i7, ⟨l7, _, rfl⟩, m7, congrArg (Value.int .i64) hkk, congrArg Value.bool e7, congrArg (Value.int .i64) hkk, trivial⟩ trivial (by kernel_rfl) (X.smallH 2 1) (by kernel_rfl)
  · cases p7
    · simp only [Bool.not_true, Bool.false_and, Bool.or_false]
      cases q7 <;> cases d3 <;> exact memo_pure (hs := [(5, .frz), (22, .bin .quo 3 _ _ _), (30, .val (.bool (decide (W (k0R X b t * X.per) < W (t - b)))) (.bool _)), (34, .val (.bool (decide (W (k0R X b t + 1) < 64))) (.bool _)), (36, .val (.int .i64 (64)) (.int .i64 k)), (43, .ix 27 (X.hv 1) (.int .i64 (6 : Nat)) _), (44, .ld 57 _ 1 (pcs X.hs) true _), (45, .call _), (56, .ix 27 (X.hv 1) (.int .i64 (7 : Nat)) _), (57, .ld 57 _ 1 (pcs X.hs) true _), (58, .call _), (63, .ix 27 (X.hv 1) (.int .i64 (7 : Nat)) _), (64, .ld 57 _ 1 (pcs X.hs) true _), (66, .call _), (69, .val (.int .i64 (64)) (.int .i64 k)), (71, .val (.bool (decide (W (o - k) < 64))) (.bool _)), (82, .val (.int .i64 (64)) (.int .i64 k))]) (ch := []) 3 (evk 50) special ⟨trivial, b1, congrArg Value.bool e1, congrArg Value.bool e2, congrArg (Value.int .i64) hkk, i6, ⟨l6, _, rfl⟩, m6, i7, ⟨l7, _, rfl⟩, m7, i7, ⟨l7, _, rfl⟩, n7, congrArg (Value.int .i64) hkk, congrArg Value.bool e7, congrArg (Value.int .i64) hkk, trivial⟩ trivial (by kernel_rfl) (X.smallH 2 1) (by kernel_rfl)
    · simp only [Bool.not_true, Bool.false_and, Bool.or_false, Bool.and_false]
      cases d3 <;> exact memo_pure (hs := [(5, .frz), (22, .bin .quo 3 _ _ _), (30, .val (.bool (decide (W (k0R X b t * X.per) < W (t - b)))) (.bool _)), (34, .val (.bool (decide (W (k0R X b t + 1) < 64))) (.bool _)), (36, .val (.int .i64 (64)) (.int .i64 k)), (43, .ix 27 (X.hv 1) (.int .i64 (6 : Nat)) _), (44, .ld 57 _ 1 (pcs X.hs) true _), (45, .call _), (56, .ix 27 (X.hv 1) (.int .i64 (7 : Nat)) _), (57, .ld 57 _ 1 (pcs X.hs) true _), (58, .call _), (69, .val (.int .i64 (64)) (.int .i64 k)), (71, .val (.bool (decide (W (o - k) < 64))) (.bool _)), (82, .val (.int .i64 (64)) (.int .i64 k))]) (ch := []) 3 (evk 50) special ⟨trivial, b1, congrArg Value.bool e1, congrArg Value.bool e2, congrArg (Value.int .i64) hkk, i6, ⟨l6, _, rfl⟩, m6, i7, ⟨l7, _, rfl⟩, m7, congrArg (Value.int .i64) hkk, congrArg Value.bool e7, congrArg (Value.int .i64) hkk, trivial⟩ trivial (by kernel_rfl) (X.smallH 2 1) (by kernel_rfl)
theorem rpre_0 (X : Cx) (hk : chkG X.es X.cyc = true) (h8 : X.hs.length = 8) (hper : X.per ≠ 0) {o b t k : Int} (hkk : kR X b t = k) {g : Bool} (hg : preS X o k (endW X b k) = g) :
    Memo.Ok Try.prog ⟨25, 2, [X.lv, X.hv 1, .int .i64 o, .int .i64 b, .int .i64 t], X.V 1, preRV g (endW X b k) (restW o k), [], 2⟩ := by
  unfold preS cutS cutP fullS at hg
  unfold kR at hkk
  cases e1 : decide (W (k0R X b t * X.per) < W (t - b)) with
  | false =>
    have ek : k1R X b t = k0R X b t := by unfold k1R; rw [e1]; rfl
    rw [ek] at hkk
    cases e2 : decide (k0R X b t < 64) with
    | false => rw [e2] at hkk; exact rpre_ff X hk h8 hper e1 e2 hkk rfl rfl rfl rfl rfl hg
    | true => rw [e2] at hkk; exact rpre_ft X hk h8 hper e1 e2 hkk rfl rfl rfl rfl rfl hg
  | true =>
    have ek : k1R X b t = W (k0R X b t + 1) := by unfold k1R; rw [e1]; rfl
    rw [ek] at hkk
    cases e2 : decide (W (k0R X b t + 1) < 64) with
    | false => rw [e2] at hkk; exact rpre_tf X hk h8 hper e1 e2 hkk rfl rfl rfl rfl rfl hg
    | true => rw [e2] at hkk; exact rpre_tt X hk h8 hper e1 e2 hkk rfl rfl rfl rfl rfl hg
theorem rpre_m (X : Cx) (hk : chkG X.es X.cyc = true) (h8 : X.hs.length = 8) (hper : X.per ≠ 0) {o b t k : Int} (hkk : kR X b t = k) {g : Bool} (hg : preS X o k (endW X b k) = g) (bl nx : Nat) :
    Memo.Ok Try.prog ⟨25, nx, [X.lv, X.hv (bl + 1), .int .i64 o, .int .i64 b, .int .i64 t], X.V (bl + 1), preRV g (endW X b k) (restW o k), [], nx⟩ :=
  X.mv (rpre_0 X hk h8 hper hkk hg) bl nx (by kernel_rfl) rfl rfl
theorem ceil_eq {d p : Int} (hp : 1 ≤ p) (hd : 0 ≤ d) : (bif decide (d.tdiv p * p < d) then d.tdiv p + 1 else d.tdiv p) = (d + p - 1).tdiv p := by
  have a1 := Int.mul_tdiv_add_tmod d p
  have a2 := Int.tmod_nonneg p hd
  have a3 := Int.tmod_lt_of_pos d (show 0 < p by omega)
  have c1 := Int.mul_tdiv_add_tmod (d + p - 1) p
  have c2 := Int.tmod_nonneg p (show 0 ≤ d + p - 1 by omega)
  have c3 := Int.tmod_lt_of_pos (d + p - 1) (show 0 < p by omega)
  rw [Int.mul_comm] at a1 c1
  generalize d.tdiv p = q at *
  generalize (d + p - 1).tdiv p = x at *
  have uniq : ∀ a : Int, a * p ≤ d + p - 1 → d + p - 1 < (a + 1) * p → a = x := by
    intro a h1 h2
    have h3 : a * p < (x + 1) * p := by rw [Int.add_mul]; omega
    have h4 : x * p < (a + 1) * p := by omega
    have h5 : a < x + 1 := Int.lt_of_mul_lt_mul_right h3 (by omega)
    have h6 : x < a + 1 := Int.lt_of_mul_lt_mul_right h4 (by omega)
    omega
  cases hq : decide (q * p < d) with
  | true =>
    simp only [decide_eq_true_eq] at hq
    refine uniq (q + 1) ?_ ?_
    · rw [Int.add_mul]; omega
    · rw [Int.add_mul, Int.add_mul]; omega
  | false =>
    simp only [decide_eq_false_iff_not] at hq
    refine uniq q ?_ ?_
    · omega
    · rw [Int.add_mul]; omega
theorem k_eq {X : Cx} {o b t : Int} (he : errC X t = 0) (hlx : lineX X = true) (hb : badP X o b t = false) : kR X b t = kW X b t := by
  obtain ⟨_, _, t0, t1⟩ := errC_ok he
  have hp : 1 ≤ X.per ∧ X.per ≤ 1000 := by
    unfold lineX lineS at hlx
    simp only [Bool.and_eq_true, Bool.not_eq_true', Bool.or_eq_false_iff, decide_eq_false_iff_not] at hlx
    omega
  unfold badP at hb
  simp only [Bool.or_eq_false_iff, decide_eq_false_iff_not] at hb
  have e0 : W (t - b) = t - b := W_id (by omega)
  have x1 : 0 ≤ (t - b).tdiv X.per := Int.tdiv_nonneg (by omega) (by omega)
  have x2 := Int.tdiv_le_self X.per (show 0 ≤ t - b by omega)
  have x3 : (t - b).tdiv X.per * X.per ≤ t - b := by
    have := Int.mul_tdiv_add_tmod (t - b) X.per
    have h := Int.tmod_nonneg X.per (show 0 ≤ t - b by omega)
    rw [Int.mul_comm] at this
    omega
  have x4 : 0 ≤ (t - b).tdiv X.per * X.per := Int.mul_nonneg x1 (by omega)
  have e1 : k0R X b t = (t - b).tdiv X.per := by
    unfold k0R; rw [e0]; exact W_id (by omega)
  have e2 : k1R X b t = (t - b + X.per - 1).tdiv X.per := by
    unfold k1R
    rw [e1, e0, W_id (a := (t - b).tdiv X.per * X.per) (by omega), W_id (a := (t - b).tdiv X.per + 1) (by omega)]
    exact ceil_eq (by omega) (by omega)
  have hq : quoW X b t = (t - b + X.per - 1).tdiv X.per := by
    unfold quoW
    rw [W_id (a := t - b) (by omega), W_id (a := t - b + X.per) (by omega), W_id (a := t - b + X.per - 1) (by omega)]
    have a1 := Int.tdiv_le_self X.per (show 0 ≤ t - b + X.per - 1 by omega)
    have a2 : 0 ≤ (t - b + X.per - 1).tdiv X.per := Int.tdiv_nonneg (by omega) (by omega)
    exact W_id (by omega)
  unfold kR kW
  rw [e2, hq]
  generalize (t - b + X.per - 1).tdiv X.per = q
  cases hd : decide (q < 64) with
  | true =>
    simp only [decide_eq_true_eq] at hd
    simp only [cond_true]
    split <;> omega
  | false =>
    simp only [decide_eq_false_iff_not] at hd
    simp only [cond_false]
    split <;> omega
end Go.Proofs.Ytjconcfkpgkbkaa.choose
