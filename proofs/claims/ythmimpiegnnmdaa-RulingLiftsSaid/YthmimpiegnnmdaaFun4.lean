/- What the program's small functions compute. -/
import Derived.Test.YthmimpiegnnmdaaFun3
import Derived.Test.YthmimpiegnnmdaaAbs24
namespace Go.Proofs.Ythmimpiegnnmdaa
open Go.RowKit
set_option linter.unusedSimpArgs false
set_option linter.unusedVariables false

def badN (s : ByteArray) (i : Nat) : Bool := (!letterC (sbyte s i)) && (decide ((i : Int) = 0) || ((!decide (sbyte s i = 95)) && (decide (sbyte s i < 48) || decide (57 < sbyte s i))))
def nameP (s : ByteArray) : Bool := ((List.range s.size).all fun i => !badN s i) && (decide (0 < (s.size : Int)) && decide ((s.size : Int) ≤ 24))
theorem nameP_no {s : ByteArray} {i : Nat} (h : i < s.size) (hb : badN s i = true) : nameP s = false := by
  unfold nameP
  have : ((List.range s.size).all fun i => !badN s i) = false := by
    rw [List.all_eq_false]
    exact ⟨i, List.mem_range.2 h, by simp [hb]⟩
  rw [this]; rfl
theorem nameP_yes {s : ByteArray} {n : Nat} (hn : s.size ≤ n) (h : ∀ j, j < n → badN s j = false) : nameP s = (decide (0 < (s.size : Int)) && decide ((s.size : Int) ≤ 24)) := by
  unfold nameP
  have : ((List.range s.size).all fun i => !badN s i) = true := by
    rw [List.all_eq_true]
    intro x hx
    rw [h x (by have := List.mem_range.1 hx; omega)]; rfl
  rw [this, Bool.true_and]
def badDay (n : Int) : Bool := decide (n < 0) || decide (1000000 < n)
/-- The first place, or -1. -/
def idxF {α : Type} (p : α → Bool) : List α → Nat → Int
  | [], _ => -1
  | x :: r, i => bif p x then (i : Int) else idxF p r (i + 1)
theorem idx_any {α : Type} (p : α → Bool) (l : List α) : ∀ i, decide (0 ≤ idxF p l i) = l.any p := by
  induction l with
  | nil => intro i; rfl
  | cons x r ih =>
    intro i
    by_cases hx : p x = true
    · simp [idxF, hx]
    · have hx' : p x = false := by simpa using hx
      have := ih (i + 1)
      rw [List.any_cons, hx', Bool.false_or, ← this, idxF, hx']; rfl
theorem idx_step {α : Type} {p : α → Bool} {l : List α} {i : Nat} (d : α) (h : i < l.length) (hi : idxF p (l.drop i) i = idxF p l 0) (hp : p (l.getD i d) = false) : idxF p (l.drop (i + 1)) (i + 1) = idxF p l 0 := by
  rw [drop_get l i d h, idxF, hp] at hi; exact hi
theorem idx_stop {α : Type} {p : α → Bool} {l : List α} {i : Nat} (d : α) (h : i < l.length) (hi : idxF p (l.drop i) i = idxF p l 0) (hp : p (l.getD i d) = true) : idxF p l 0 = (i : Int) := by
  rw [drop_get l i d h, idxF, hp] at hi; exact hi.symm
theorem idx_end {α : Type} {p : α → Bool} {l : List α} {i : Nat} (h : l.length ≤ i) (hi : idxF p (l.drop i) i = idxF p l 0) : idxF p l 0 = -1 := by
  rw [List.drop_of_length_le h] at hi; exact hi.symm
def daysP (l : List Int) : Bool := !l.any badDay
end Go.Proofs.Ythmimpiegnnmdaa
