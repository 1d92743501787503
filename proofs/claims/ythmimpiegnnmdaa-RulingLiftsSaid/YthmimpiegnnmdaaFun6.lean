/- What the program's Count computes. -/
import Derived.Test.YthmimpiegnnmdaaS5
namespace Go.Proofs.Ythmimpiegnnmdaa
open Go.RowKit
set_option linter.unusedSimpArgs false
set_option linter.unusedVariables false
abbrev Mb := List (ByteArray × Bool)
def idsS (m : Mb) (r : Ru) : Mb := mputB m r.id true
def idsM (l : List Ru) : Mb := l.foldl idsS []
def finS (kn : Int) (m : Mb) (r : Ru) : Mb := mputB m r.id (r.fin && decide (r.kn ≤ kn))
def finM (l : List Ru) (kn : Int) : Mb := l.foldl (finS kn) []
def skipC (fm : Mb) (kn : Int) (m : Mb) (r : Ru) : Bool := (decide (kn < r.kn) || (decide (r.kd = 6) && mgetB fm r.lf)) || mgetB m r.id
def stepC (fm : Mb) (kn : Int) (x : Mb × List Ru) (r : Ru) : Mb × List Ru :=
  bif skipC fm kn x.1 r then x else (bif decide (r.kd = 6) then mputB x.1 r.lf true else x.1, x.2 ++ [r])
/-- The rulings that count, the last one first, and what is lifted. -/
def cntL (fm : Mb) (kn : Int) : List Ru → Mb × List Ru
  | [] => ([], [])
  | r :: rest => stepC fm kn (cntL fm kn rest) r
theorem cntL_step (fm : Mb) (kn : Int) (l : List Ru) (k : Nat) (h : k < l.length) : cntL fm kn (l.drop k) = stepC fm kn (cntL fm kn (l.drop (k + 1))) (l.getD k Ru.z) := by
  rw [drop_get l k Ru.z h, cntL]
theorem cntL_len (fm : Mb) (kn : Int) (l : List Ru) : (cntL fm kn l).2.length ≤ l.length := by
  induction l with
  | nil => exact Nat.le_refl _
  | cons r l ih =>
    simp only [cntL, stepC]
    cases skipC fm kn (cntL fm kn l).1 r <;> simp <;> omega
theorem fold_step {α β : Type} {f : β → α → β} {l : List α} {b : β} {i : Nat} (d : α) (h : i < l.length) : (l.drop i).foldl f b = (l.drop (i + 1)).foldl f (f b (l.getD i d)) := by
  rw [drop_get l i d h]; rfl
/-- A list, reversed from its ends up to place i. -/
structure RevI (l : List Ru) (i : Nat) (w : List Ru) : Prop where
  len : w.length = l.length
  get : ∀ p, p < l.length → w.getD p Ru.z = if p < i ∨ l.length - i ≤ p then l.getD (l.length - 1 - p) Ru.z else l.getD p Ru.z
theorem getD_set {α : Type} (l : List α) (i p : Nat) (a d : α) (h : i < l.length) : (l.set i a).getD p d = if i = p then a else l.getD p d := by
  rw [List.getD_eq_getElem?_getD, List.getElem?_set]
  by_cases e : i = p
  · subst e; simp [h]
  · simp [e, List.getD_eq_getElem?_getD]
theorem RevI.step {l w : List Ru} {i c : Nat} (h : RevI l i w) (hi : i < c) (hc : c + 1 = l.length - i) : RevI l (i + 1) ((w.set i (w.getD c Ru.z)).set c (w.getD i Ru.z)) := by
  have hl := h.len
  have g1 := h.get c (by omega)
  have g2 := h.get i (by omega)
  rw [if_neg (by omega)] at g1 g2
  refine ⟨by simp [hl], fun p hp => ?_⟩
  rw [getD_set _ _ _ _ _ (by simp; omega), getD_set _ _ _ _ _ (by omega), g1, g2, h.get p hp]
  by_cases e1 : c = p
  · rw [if_pos e1, if_pos (by omega)]; congr 1; omega
  · rw [if_neg e1]
    by_cases e2 : i = p
    · rw [if_pos e2, if_pos (by omega)]; congr 1; omega
    · rw [if_neg e2]
      by_cases e3 : p < i ∨ l.length - i ≤ p
      · rw [if_pos e3, if_pos (by omega)]
      · rw [if_neg e3, if_neg (by omega)]
theorem RevI.fin {l w : List Ru} {i : Nat} (h : RevI l i w) (hi : l.length - i ≤ i + 1) : w = l.reverse := by
  apply List.ext_getElem
  · rw [List.length_reverse]; exact h.len
  · intro p h1 h2
    have hp : p < l.length := by rw [← h.len]; exact h1
    have := h.get p hp
    rw [getD_of_lt h1] at this
    rw [this, List.getElem_reverse]
    by_cases e : p < i ∨ l.length - i ≤ p
    · rw [if_pos e, getD_of_lt (by omega)]
    · rw [if_neg e, getD_of_lt hp]; congr 1; omega
def countP (l : List Ru) (kn : Int) : List Ru × Int :=
  bif !daysP [kn] then ([], 1) else bif decide ((200 : Int) < (l.length : Int)) then ([], 2) else bif l.any notValid then ([], 1) else bif decide ((idsM l).length < l.length) then ([], 9) else ((cntL (finM l kn) kn l).2.reverse, 0)
end Go.Proofs.Ythmimpiegnnmdaa
