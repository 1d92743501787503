/- What the functions on rulings and spans compute. -/
import Derived.Test.YthmimpiegnnmdaaS1
namespace Go.Proofs.Ythmimpiegnnmdaa
open Go.RowKit
set_option linter.unusedSimpArgs false
set_option linter.unusedVariables false

theorem all_step {α : Type} {l : List α} {p : α → Bool} {i : Nat} (d : α) (h : i < l.length) (hi : (l.drop i).all p = l.all p) (hp : p (l.getD i d) = true) : (l.drop (i + 1)).all p = l.all p := by
  rw [drop_get l i d h, List.all_cons, hp, Bool.true_and] at hi; exact hi
theorem all_stop {α : Type} {l : List α} {p : α → Bool} {i : Nat} (d : α) (h : i < l.length) (hi : (l.drop i).all p = l.all p) (hp : p (l.getD i d) = false) : l.all p = false := by
  rw [drop_get l i d h, List.all_cons, hp, Bool.false_and] at hi; exact hi.symm
theorem all_end {α : Type} {l : List α} {p : α → Bool} {i : Nat} (h : l.length ≤ i) (hi : (l.drop i).all p = l.all p) : l.all p = true := by
  rw [List.drop_of_length_le h] at hi; exact hi.symm
theorem any_step {α : Type} {l : List α} {p : α → Bool} {i : Nat} (d : α) (h : i < l.length) (hi : (l.drop i).any p = l.any p) (hp : p (l.getD i d) = false) : (l.drop (i + 1)).any p = l.any p := by
  rw [drop_get l i d h, List.any_cons, hp, Bool.false_or] at hi; exact hi
theorem any_stop {α : Type} {l : List α} {p : α → Bool} {i : Nat} (d : α) (h : i < l.length) (hi : (l.drop i).any p = l.any p) (hp : p (l.getD i d) = true) : l.any p = true := by
  rw [drop_get l i d h, List.any_cons, hp, Bool.true_or] at hi; exact hi.symm
theorem any_end {α : Type} {l : List α} {p : α → Bool} {i : Nat} (h : l.length ≤ i) (hi : (l.drop i).any p = l.any p) : l.any p = false := by
  rw [List.drop_of_length_le h] at hi; exact hi.symm
theorem cast_eq (a b : Nat) : decide ((a : Int) = (b : Int)) = decide (a = b) := by
  by_cases h : a = b <;> simp [h]; omega
/-- Two lists, compared place by place. -/
def same2 {α : Type} (p : α → α → Bool) (d : α) : List α → List α → Bool
  | [], _ => true
  | x :: r, m => p x (m.getD 0 d) && same2 p d r (m.drop 1)
def all2 {α : Type} (p : α → α → Bool) (d : α) (l m : List α) : Bool := decide (l.length = m.length) && same2 p d l m
theorem same2_step {α : Type} {p : α → α → Bool} {d : α} {l m : List α} {i : Nat} (h : i < l.length) (hi : same2 p d (l.drop i) (m.drop i) = same2 p d l m) (hp : p (l.getD i d) (m.getD i d) = true) :
    same2 p d (l.drop (i + 1)) (m.drop (i + 1)) = same2 p d l m := by
  rw [drop_get l i d h, same2, getD_drop, hp, Bool.true_and, List.drop_drop] at hi; exact hi
theorem same2_stop {α : Type} {p : α → α → Bool} {d : α} {l m : List α} {i : Nat} (h : i < l.length) (hi : same2 p d (l.drop i) (m.drop i) = same2 p d l m) (hp : p (l.getD i d) (m.getD i d) = false) :
    same2 p d l m = false := by
  rw [drop_get l i d h, same2, getD_drop, hp, Bool.false_and] at hi; exact hi.symm
theorem same2_end {α : Type} {p : α → α → Bool} {d : α} {l m : List α} {i : Nat} (h : l.length ≤ i) (hi : same2 p d (l.drop i) (m.drop i) = same2 p d l m) : same2 p d l m = true := by
  rw [List.drop_of_length_le h] at hi; exact hi.symm
theorem sameFs_step {l m : List Fm} {i : Nat} (h : i < l.length) (hi : sameFs (l.drop i) (m.drop i) = sameFs l m) (hp : sameF (l.getD i Fm.z) (m.getD i Fm.z) = true) :
    sameFs (l.drop (i + 1)) (m.drop (i + 1)) = sameFs l m := by
  rw [drop_get l i Fm.z h, sameFs, getD_drop, hp, Bool.true_and, List.drop_drop] at hi; exact hi
theorem sameFs_stop {l m : List Fm} {i : Nat} (h : i < l.length) (hi : sameFs (l.drop i) (m.drop i) = sameFs l m) (hp : sameF (l.getD i Fm.z) (m.getD i Fm.z) = false) : sameFs l m = false := by
  rw [drop_get l i Fm.z h, sameFs, getD_drop, hp, Bool.false_and] at hi; exact hi.symm
theorem sameFs_end {l m : List Fm} {i : Nat} (h : l.length ≤ i) (hi : sameFs (l.drop i) (m.drop i) = sameFs l m) : sameFs l m = true := by
  rw [List.drop_of_length_le h] at hi; exact hi.symm

def smallF (f : Fm) (m : Int) : Bool := decide (cntF f m ≤ m)
def sameR (r s : Ru) : Bool := (((((((decide (r.id = s.id) && decide (r.tg = s.tg)) && decide (r.kd = s.kd)) && decide (r.a = s.a)) && decide (r.b = s.b)) && sameF r.f s.f) && decide (r.kn = s.kn)) && (r.fin == s.fin)) && decide (r.lf = s.lf)
def sameS (r s : Sn) : Bool := !(((!decide (r.a = s.a)) || (!decide (r.b = s.b))) || !sameF r.f s.f)
def okR (r : Ru) : Bool := !((((!smallF r.f 250) || decide ((100 : Int) < (r.id.size : Int))) || decide ((100 : Int) < (r.tg.size : Int))) || decide ((100 : Int) < (r.lf.size : Int)))
def fewR (l : List Ru) (n : Int) : Bool := decide ((l.length : Int) ≤ n) && l.all okR
def okS (s : Sn) : Bool := smallF s.f 250
def shortS (l : List Sn) (n : Int) : Bool := decide ((l.length : Int) ≤ n) && l.all okS
/-- A span has a day. -/
def hasS (s : Sn) (n : Int) : Bool := decide (s.a ≤ n) && (decide (s.b = -1) || decide (n < s.b))
def onS : List Sn → Int → Fm × Bool
  | [], _ => (Fm.z, false)
  | s :: r, n => bif hasS s n then (s.f, true) else onS r n
def finP (id : ByteArray) (kn : Int) (r : Ru) : Bool := (decide (r.id = id) && r.fin) && decide (r.kn ≤ kn)
def finalR (l : List Ru) (id : ByteArray) (kn : Int) : Bool := l.any (finP id kn)
end Go.Proofs.Ythmimpiegnnmdaa
