/- Contracts at other names, with new blocks; Same at two blocks. -/
import Derived.Test.YtddhglcmfoopnaaFnL
namespace Go.Proofs.Ytddhglcmfoopnaa.queue
open Go Go.En
set_option linter.unusedVariables false

theorem memo_blkN {f : FuncId} {args args' cs ds : List Value} {v v' : Value} {k k' n' nx' : Nat} (h : Memo.Ok Try.prog ⟨f, 1, args, [(0, cs)], v, [(k, ds)], n'⟩) (hs : avL cs = true) (hd : avL ds = true) (b nx : Nat)
    (hc : (smallL (small 1 5) args && small n' 5 v && inNew 1 n' [(k, ds)]) = true)
    (h1 : args.map (renV (shift (fun _ => b) 1 nx) 5) = args') (h2 : renV (shift (fun _ => b) 1 nx) 5 v = v') (h3 : shift (fun _ => b) 1 nx k = k') (h4 : nx + (n' - 1) = nx') : Memo.Ok Try.prog ⟨f, nx, args', [(b, cs)], v', [(k', ds)], nx'⟩ := by
  simp only [Bool.and_eq_true] at hc
  have := memo_ren h (fun _ => b) nx [(b, cs)] (by simp [hc.1.1, hc.1.2, hc.2, below]) (by simp [smallH, small_avL hs]) (by simp [smallH, small_avL hd]) (fun c es hb => by
    by_cases h0 : 0 = c
    · subst h0
      simp [roHp, Hp.get] at hb ⊢
      subst hb
      exact (renV_avL hs).symm
    · simp [roHp, Hp.get, h0] at hb)
  simpa [h1, h2, renH, h3, h4, renV_avL hd] using this
theorem memo_0N {f : FuncId} {args args' ds : List Value} {v v' : Value} {k k' n' nx' : Nat} (h : Memo.Ok Try.prog ⟨f, 0, args, [], v, [(k, ds)], n'⟩) (hd : avL ds = true) (nx : Nat)
    (hc : (smallL (small 0 5) args && small n' 5 v && inNew 0 n' [(k, ds)]) = true)
    (h1 : args.map (renV (shift (fun b => b) 0 nx) 5) = args') (h2 : renV (shift (fun b => b) 0 nx) 5 v = v') (h3 : shift (fun b => b) 0 nx k = k') (h4 : nx + (n' - 0) = nx') : Memo.Ok Try.prog ⟨f, nx, args', [], v', [(k', ds)], nx'⟩ := by
  simp only [Bool.and_eq_true] at hc
  have := memo_ren h (fun b => b) nx [] (by simp [hc.1.1, hc.1.2, hc.2, below]) rfl (by simp [smallH, small_avL hd]) (fun c es hb => by simp [roHp, Hp.get] at hb)
  simp only [h1, h2, renH, h3, h4, renV_avL hd] at this
  exact this
/-- Same at two blocks (or one) that hold the same parts. -/
def ρ2 (a b : Nat) : Nat → Nat
  | 0 => a
  | _ => b
theorem same_m {cap : Int} {oa ka ob kb na nb : Nat} {cs ds : List Value} (hs : avL cs = true) (hd : avL ds = true) {l : List Pt} (hl : l.length < 9223372036854775807) (hh : Holds cs oa l) (hm : Holds ds ob l) (ha : l.length = na) (hb : l.length = nb) (a b nx : Nat) (hab : a ≠ b) :
    Memo.Ok Try.prog ⟨20, nx, [qv cap a oa na ka, qv cap b ob nb kb], [(a, cs), (b, ds)], .bool true, [], nx⟩ := by
  subst ha
  subst hb
  have h := same_0 (ca := cap) (cb := cap) (ka := ka) (kb := kb) hs hd hl hh hm
  rw [same_refl] at h
  have := memo_ren h (ρ2 a b) nx [(a, cs), (b, ds)] (by kernel_rfl) (by simp [smallH, small_avL hs, small_avL hd]) rfl (fun c es hc => by
    by_cases h0 : 0 = c
    · subst h0
      simp [roHp, Hp.get, ρ2] at hc ⊢
      subst hc
      exact (renV_avL hs).symm
    · by_cases h1 : 1 = c
      · subst h1
        simp [roHp, Hp.get, ρ2, hab] at hc ⊢
        subst hc
        exact (renV_avL hd).symm
      · simp [roHp, Hp.get, h0, h1] at hc)
  exact this
theorem same_m1 {cap : Int} {oa ka kb na nb : Nat} {cs : List Value} (hs : avL cs = true) {l : List Pt} (hl : l.length < 9223372036854775807) (hh : Holds cs oa l) (ha : l.length = na) (hb : l.length = nb) (a nx : Nat) :
    Memo.Ok Try.prog ⟨20, nx, [qv cap a oa na ka, qv cap a oa nb kb], [(a, cs)], .bool true, [], nx⟩ := by
  subst ha
  subst hb
  have h := same_0 (ca := cap) (cb := cap) (ka := ka) (kb := kb) hs hs hl hh hh
  rw [same_refl] at h
  have := memo_ren h (fun _ => a) nx [(a, cs)] (by kernel_rfl) (by simp [smallH, small_avL hs]) rfl (fun c es hc => by
    by_cases h0 : 0 = c
    · subst h0
      simp [roHp, Hp.get] at hc ⊢
      subst hc
      exact (renV_avL hs).symm
    · by_cases h1 : 1 = c
      · subst h1
        simp [roHp, Hp.get] at hc ⊢
        subst hc
        exact (renV_avL hs).symm
      · simp [roHp, Hp.get, h0, h1] at hc)
  exact this
theorem holds_take {cs : List Value} {off : Nat} {l : List Pt} (hh : Holds cs off l) (n : Nat) : Holds cs off (l.take n) := by
  intro i p hp
  rw [List.getElem?_take] at hp
  split at hp
  · exact hh i p hp
  · cases hp
theorem take_len (l : List Pt) : (l.take 60).length = minI l.length := by simp [minI, Nat.min_comm]
theorem few_l {off c : Nat} {cap : Int} {cs : List Value} {l : List Pt} (hn : l.length ≤ c) (hc : c < openCap) (hs : avL cs = true) (b nx : Nat) : Memo.Ok Try.prog ⟨10, nx, [qv cap b off l.length c], [(b, cs)], qv cap b off (l.take 60).length c, [], nx⟩ := by
  rw [take_len]
  exact few_m hn hc hs b nx
end Go.Proofs.Ytddhglcmfoopnaa.queue
