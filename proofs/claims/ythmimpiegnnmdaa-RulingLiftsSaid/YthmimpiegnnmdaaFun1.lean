/- What the small functions compute. -/
import Derived.Test.YthmimpiegnnmdaaDat
namespace Go.Proofs.Ythmimpiegnnmdaa
open Go.RowKit
set_option linter.unusedSimpArgs false
set_option linter.unusedVariables false
def letterC (c : Int) : Bool := (decide (97 ≤ c) && decide (c ≤ 122)) || (decide (65 ≤ c) && decide (c ≤ 90))
def digitC (c : Int) : Bool := decide (48 ≤ c) && decide (c ≤ 57)
def wordC (c : Int) : Bool := (letterC c || digitC c) || decide (c = 95)
def allW (s : ByteArray) : Nat → Bool
  | 0 => true
  | n + 1 => allW s n && wordC (sbyte s n)
theorem allW_false {s : ByteArray} {i : Nat} (h : wordC (sbyte s i) = false) : ∀ n, i < n → allW s n = false
  | 0, h0 => absurd h0 (Nat.not_lt_zero _)
  | n + 1, h0 => by
    simp only [allW]
    by_cases e : i = n
    · subst e; rw [h]; simp
    · rw [allW_false h n (by omega)]; rfl
def nameOk (s : ByteArray) : Bool := allW s s.size && (decide (0 < (s.size : Int)) && decide ((s.size : Int) ≤ 24) && letterC (sbyte s 0))
mutual
/-- Size and depth, as they are counted. -/
def szF : Fm → Int × Int
  | .mk _ _ _ _ ks => ((szFs ks 1 0).1, wr ((szFs ks 1 0).2 + 1))
def szFs : List Fm → Int → Int → Int × Int
  | [], a, d => (a, d)
  | k :: r, a, d => szFs r (wr (a + (szF k).1)) (mx d (szF k).2)
end
theorem szF_eq (f : Fm) : szF f = ((szFs f.ks 1 0).1, wr ((szFs f.ks 1 0).2 + 1)) := by cases f; rfl
mutual
def sameF : Fm → Fm → Bool
  | .mk o nm c n ks, g => (decide (o = g.op) && decide (nm = g.nm) && decide (c = g.cm) && decide (n = g.n) && decide (ks.length = g.ks.length)) && sameFs ks g.ks
def sameFs : List Fm → List Fm → Bool
  | [], _ => true
  | k :: r, l => sameF k (l.getD 0 Fm.z) && sameFs r (l.drop 1)
end
theorem sameF_eq (f g : Fm) : sameF f g = ((decide (f.op = g.op) && decide (f.nm = g.nm) && decide (f.cm = g.cm) && decide (f.n = g.n) && decide (f.ks.length = g.ks.length)) && sameFs f.ks g.ks) := by cases f; rfl
mutual
/-- The nodes, counted until there are too many. -/
def cntF : Fm → Int → Int
  | .mk _ _ _ _ ks, m => cntFs ks m 1
def cntFs : List Fm → Int → Int → Int
  | [], _, c => c
  | k :: r, m, c => if c ≤ m then cntFs r m (wr (c + cntF k (wr (m - c)))) else c
end
theorem cntF_eq (f : Fm) (m : Int) : cntF f m = cntFs f.ks m 1 := by cases f; rfl
end Go.Proofs.Ythmimpiegnnmdaa
