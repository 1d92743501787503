/- Towards the laws. -/
import Derived.Test.YthmimpiegnnmdaaS6
namespace Go.Proofs.Ythmimpiegnnmdaa
open Go.RowKit
set_option linter.unusedSimpArgs false
set_option linter.unusedVariables false
theorem rall_no {n i : Nat} {p : Nat → Bool} (h : i < n) (hb : p i = true) : ((List.range n).all fun i => !p i) = false := by
  rw [List.all_eq_false]
  exact ⟨i, List.mem_range.2 h, by simp [hb]⟩
theorem rall_yes {n m : Nat} {p : Nat → Bool} (hn : n ≤ m) (h : ∀ j, j < m → p j = false) : ((List.range n).all fun i => !p i) = true := by
  rw [List.all_eq_true]
  intro x hx
  rw [h x (by have := List.mem_range.1 hx; omega)]; rfl
theorem pred_av (i : Nat) (h : 0 < i) (h2 : i < 9223372036854775807) : AV.tv (.int .i64 (wr ((i : Int) - 1))) = .tv (.int .i64 ((i - 1 : Nat) : Int)) := by
  rw [wr_fit _ (by omega)]; congr 2; omega
/-- Something is out of order at place i. -/
def unordAt (l : List Sn) (i : Nat) : Bool := ((!decide ((l.getD i Sn.z).b = (-1 : Int))) && decide ((l.getD i Sn.z).b ≤ (l.getD i Sn.z).a)) || (decide ((0 : Int) < ((i : Nat) : Int)) && (decide ((l.getD (i - 1) Sn.z).b = (-1 : Int)) || decide ((l.getD i Sn.z).a < (l.getD (i - 1) Sn.z).b)))
def orderedB (l : List Sn) : Bool := (List.range l.length).all fun i => !unordAt l i
theorem short_len {l : List Sn} {n : Int} (h : shortS l n = true) : (l.length : Int) ≤ n := by
  simp only [shortS, Bool.and_eq_true, decide_eq_true_eq] at h; exact h.1
theorem few_len {l : List Ru} {n : Int} (h : fewR l n = true) : (l.length : Int) ≤ n := by
  simp only [fewR, Bool.and_eq_true, decide_eq_true_eq] at h; exact h.1
end Go.Proofs.Ythmimpiegnnmdaa
