/- What the reference computes of rulings and spans. -/
import Derived.Test.YthmimpiegnnmdaaS2
namespace Go.Proofs.Ythmimpiegnnmdaa
open Go.RowKit
set_option linter.unusedSimpArgs false
set_option linter.unusedVariables false

/-- Which rulings count, of a list's end; l0: the whole list. -/
def ctl (l0 : List Ru) (kn : Int) : List Ru → List Bool
  | [] => []
  | r :: rest =>
    (!(decide (kn < r.kn) || (decide (r.kd = 6) && finalR l0 r.lf kn)) && (r.fin || !((rest.zip (ctl l0 kn rest)).any fun x => (decide (x.1.kd = 6) && decide (x.1.lf = r.id)) && x.2))) :: ctl l0 kn rest
theorem ctl_len (l0 : List Ru) (kn : Int) (l : List Ru) : (ctl l0 kn l).length = l.length := by
  induction l with
  | nil => rfl
  | cons r l ih => simp [ctl, ih]
def ctR (l : List Ru) (kn : Int) (i : Nat) : Bool := (ctl l kn (l.drop i)).headD false
/-- Some ruling from place k on lifts r. -/
def liftedR (l : List Ru) (kn : Int) (r : Ru) (k : Nat) : Bool := ((l.drop k).zip (ctl l kn (l.drop k))).any fun x => (decide (x.1.kd = 6) && decide (x.1.lf = r.id)) && x.2
theorem ctR_eq (l : List Ru) (kn : Int) (i : Nat) (h : i < l.length) : ctR l kn i = (!(decide (kn < (l.getD i Ru.z).kn) || (decide ((l.getD i Ru.z).kd = 6) && finalR l (l.getD i Ru.z).lf kn)) && ((l.getD i Ru.z).fin || !liftedR l kn (l.getD i Ru.z) (i + 1))) := by
  unfold ctR liftedR
  rw [drop_get l i Ru.z h, ctl]
  rfl
theorem lifted_step (l : List Ru) (kn : Int) (r : Ru) (k : Nat) (h : k < l.length) : liftedR l kn r k = (((decide ((l.getD k Ru.z).kd = 6) && decide ((l.getD k Ru.z).lf = r.id)) && ctR l kn k) || liftedR l kn r (k + 1)) := by
  unfold liftedR ctR
  rw [drop_get l k Ru.z h, ctl]
  rfl
theorem lifted_end (l : List Ru) (kn : Int) (r : Ru) (k : Nat) (h : l.length ≤ k) : liftedR l kn r k = false := by
  unfold liftedR; rw [List.drop_of_length_le h]; rfl
def emptyS (s : Sn) : Bool := (!decide (s.b = (-1 : Int))) && decide (s.b ≤ s.a)
def addS (l : List Sn) (s : Sn) : List Sn := bif emptyS s then l else l ++ [s]
def andF (f g : Fm) : Fm := Fm.mk 6 ⟨#[]⟩ 0 0 [f, g]
def readS (s : Sn) (r : Ru) : Sn := bif decide (s.f.op = 1) then Sn.mk (fromS s r.a).a (fromS s r.a).b r.f else Sn.mk (fromS s r.a).a (fromS s r.a).b (andF s.f r.f)
def stepA (r : Ru) (o : List Sn) (s : Sn) : List Sn :=
  bif decide (r.kd = 1) || emptyS s then o
  else bif decide (r.kd = 2) then addS o (beforeS s r.a)
  else bif decide (r.kd = 3) then addS o (beforeS s r.b)
  else bif decide (r.kd = 4) then addS (addS o (beforeS s r.a)) (fromS s r.b)
  else bif decide (r.kd = 5) then addS (addS o (beforeS s r.a)) (readS s r)
  else addS o s
theorem stepA_z (o : List Sn) (s : Sn) : stepA Ru.z o s = bif emptyS s then o else addS o s := by
  simp only [stepA, Ru.z]
  simp
def badD (r : Ru) : Bool := (!(decide (0 ≤ r.a) && decide (r.a ≤ 1000000))) || !(decide (0 ≤ r.b) && decide (r.b ≤ 1000000))
def applyB (l : List Sn) (r : Ru) : List Sn := l.foldl (stepA (bif badD r then Ru.z else r)) []
def dupAt (l : List Ru) (i : Nat) : Bool := (l.take i).any fun s => decide (s.id = (l.getD i Ru.z).id)
def dupR (l : List Ru) : Bool := (List.range l.length).any (dupAt l)
def outB (l : List Ru) (kn : Int) (n : Nat) : List Ru := ((List.range n).filter (ctR l kn)).map fun i => l.getD i Ru.z
def countB (l : List Ru) (kn : Int) : List Ru × Int :=
  bif !(decide (0 ≤ kn) && decide (kn ≤ 1000000)) then ([], 1) else bif decide ((200 : Int) < (l.length : Int)) then ([], 2) else bif !l.all validR then ([], 1) else bif dupR l then ([], 9) else (outB l kn l.length, 0)
theorem outB_succ (l : List Ru) (kn : Int) (n : Nat) : outB l kn (n + 1) = bif ctR l kn n then outB l kn n ++ [l.getD n Ru.z] else outB l kn n := by
  unfold outB
  rw [List.range_succ, List.filter_append, List.map_append]
  cases h : ctR l kn n <;> simp [List.filter, h]
theorem outB_len (l : List Ru) (kn : Int) (n : Nat) : (outB l kn n).length ≤ n := by
  unfold outB
  rw [List.length_map]
  exact Nat.le_trans (List.length_filter_le _ _) (by simp)
theorem dup_no {l : List Ru} {n : Nat} (hn : l.length ≤ n) (h : ∀ j, j < n → dupAt l j = false) : dupR l = false := by
  unfold dupR
  rw [List.any_eq_false]
  intro x hx
  rw [h x (by have := List.mem_range.1 hx; omega)]; simp
theorem dup_yes {l : List Ru} {n : Nat} (hn : n < l.length) (h : dupAt l n = true) : dupR l = true := by
  unfold dupR
  rw [List.any_eq_true]
  exact ⟨n, List.mem_range.2 hn, h⟩
theorem dupAt_no {l : List Ru} {i k : Nat} (hk : i ≤ k) (h : ∀ j, j < k → decide ((l.getD j Ru.z).id = (l.getD i Ru.z).id) = false) : dupAt l i = false := by
  unfold dupAt
  rw [List.any_eq_false]
  intro s hs
  obtain ⟨j, hj, rfl⟩ := List.mem_iff_getElem.1 hs
  simp only [List.length_take] at hj
  have := h j (by omega)
  rw [List.getD_eq_getElem?_getD, List.getElem?_eq_getElem (by omega)] at this
  simpa using this
theorem dupAt_yes {l : List Ru} {i k : Nat} (hk : k < i) (hi : i < l.length) (h : decide ((l.getD k Ru.z).id = (l.getD i Ru.z).id) = true) : dupAt l i = true := by
  unfold dupAt
  rw [List.any_eq_true]
  refine ⟨l.getD k Ru.z, ?_, h⟩
  rw [List.getD_eq_getElem?_getD, List.getElem?_eq_getElem (by omega)]
  exact List.mem_iff_getElem.2 ⟨k, by simp; omega, by simp⟩
end Go.Proofs.Ythmimpiegnnmdaa
