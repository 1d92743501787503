/- What the program's Apply computes. -/
import Derived.Test.YthmimpiegnnmdaaS4
namespace Go.Proofs.Ythmimpiegnnmdaa
open Go.RowKit
set_option linter.unusedSimpArgs false
set_option linter.unusedVariables false
def keepT (s : Sn) (fr to : Int) (rd : Fm) : Sn := Sn.mk (mx s.a fr) (bif (!decide (to = -1)) && (decide (s.b = -1) || decide (to < s.b)) then to else s.b) rd
def keepL (s : Sn) (fr : Int) (rd : Fm) : Sn := Sn.mk (mx s.a fr) s.b rd
def nonE (s : Sn) : Bool := decide (s.b = -1) || decide (s.a < s.b)
def putS (o : List Sn) (s : Sn) : List Sn := bif nonE s then o ++ [s] else o
theorem put_no {o : List Sn} {s : Sn} (h : nonE s = false) : o = putS o s := by unfold putS; rw [h]; rfl
theorem put_yes {o : List Sn} {s : Sn} (h : nonE s = true) : o ++ [s] = putS o s := by unfold putS; rw [h]; rfl
theorem put_2 {o o1 o2 : List Sn} {A B : Sn} (h1 : o1 = putS o A) (h2 : o2 = putS o1 B) : o2 = putS (putS o A) B := by subst h1; exact h2
def readP (s : Sn) (r : Ru) : Fm := Fm.mk (bif !decide (s.f.op = 1) then 6 else r.f.op) (bif !decide (s.f.op = 1) then ⟨#[]⟩ else r.f.nm) (bif !decide (s.f.op = 1) then 0 else r.f.cm) (bif !decide (s.f.op = 1) then 0 else r.f.n) (bif !decide (s.f.op = 1) then [s.f, r.f] else r.f.ks)
theorem readP_eq (s : Sn) (r : Ru) : readP s r = bif !decide (s.f.op = 1) then andF s.f r.f else r.f := by
  unfold readP andF
  cases (!decide (s.f.op = 1)) with
  | true => rfl
  | false => exact Fm.eta r.f
def stepP (r : Ru) (kind : Int) (o : List Sn) (s : Sn) : List Sn :=
  bif (!decide (s.b = -1)) && decide (s.b ≤ s.a) then o
  else bif decide (kind = 1) then o
  else bif decide (kind = 2) then putS o (keepT s s.a r.a s.f)
  else bif decide (kind = 3) then putS o (keepT s s.a r.b s.f)
  else bif decide (kind = 4) then putS (putS o (keepT s s.a r.a s.f)) (keepL s r.b s.f)
  else bif decide (kind = 5) then putS (putS o (keepT s s.a r.a s.f)) (keepL s r.a (readP s r))
  else putS o (keepL s s.a s.f)
def applyP (l : List Sn) (r : Ru) : List Sn := l.foldl (stepP r (bif !daysP [r.a, r.b] then 0 else r.kd)) []
end Go.Proofs.Ythmimpiegnnmdaa
