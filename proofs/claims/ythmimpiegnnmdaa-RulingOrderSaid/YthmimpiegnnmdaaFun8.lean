/- Rulings, one after the other. -/
import Derived.Test.YthmimpiegnnmdaaLaw2
namespace Go.Proofs.Ythmimpiegnnmdaa
open Go.RowKit
set_option linter.unusedSimpArgs false
set_option linter.unusedVariables false

def afterP (l : List Sn) (r : List Ru) : List Sn := r.foldl applyP l
theorem putS_len (o : List Sn) (s : Sn) : (putS o s).length ≤ o.length + 1 := by
  unfold putS; cases nonE s <;> simp
theorem bif_len {c : Bool} {a b : List Sn} {n : Nat} (h1 : a.length ≤ n) (h2 : b.length ≤ n) : (bif c then a else b).length ≤ n := by cases c; exact h2; exact h1
theorem put2_len (o : List Sn) (s t : Sn) : (putS (putS o s) t).length ≤ o.length + 2 := Nat.le_trans (putS_len _ t) (Nat.succ_le_succ (putS_len o s))
theorem put1_len (o : List Sn) (s : Sn) : (putS o s).length ≤ o.length + 2 := Nat.le_trans (putS_len o s) (by omega)
theorem stepP_len (r : Ru) (k : Int) (o : List Sn) (s : Sn) : (stepP r k o s).length ≤ o.length + 2 :=
  bif_len (by omega) (bif_len (by omega) (bif_len (put1_len _ _) (bif_len (put1_len _ _) (bif_len (put2_len _ _ _) (bif_len (put2_len _ _ _) (put1_len _ _))))))
theorem foldP_len (r : Ru) (k : Int) (l : List Sn) : ∀ o, (l.foldl (stepP r k) o).length ≤ o.length + 2 * l.length := by
  induction l with
  | nil => intro o; simp
  | cons s l ih =>
    intro o
    have := ih (stepP r k o s)
    have := stepP_len r k o s
    simp only [List.foldl_cons, List.length_cons]; omega
theorem applyP_len (l : List Sn) (r : Ru) : (applyP l r).length ≤ 2 * l.length := by
  have := foldP_len r (bif !daysP [r.a, r.b] then 0 else r.kd) l []
  simpa [applyP] using this
theorem pow_ge {a n N : Nat} (h : a * 2 ^ n ≤ N) : a ≤ N := by
  have : 1 ≤ 2 ^ n := Nat.one_le_two_pow
  have := Nat.mul_le_mul_left a this
  omega
theorem pow_step {x y n N : Nat} (hn : 0 < n) (h : x * 2 ^ n ≤ N) (hy : y ≤ 2 * x) : y * 2 ^ (n - 1) ≤ N := by
  obtain ⟨m, rfl⟩ : ∃ m, n = m + 1 := ⟨n - 1, by omega⟩
  have h2 := Nat.mul_le_mul_right (2 ^ m) hy
  rw [Nat.pow_succ] at h
  have e : 2 * x * 2 ^ m = x * (2 ^ m * 2) := by rw [Nat.mul_comm 2 x, Nat.mul_assoc, Nat.mul_comm 2]
  rw [e] at h2
  exact Nat.le_trans h2 h
theorem after_room {l r : Nat} (h1 : l ≤ 10) (h2 : r ≤ 20) : l * 2 ^ r ≤ 100000000 :=
  Nat.le_trans (Nat.mul_le_mul h1 (Nat.pow_le_pow_right (by decide) h2)) (by decide)
theorem on_after (day : Int) (r : List Ru) : ∀ l : List Sn, r.all validP = true → (onS (afterP l r) day).2 = ((onS l day).2 && !r.any fun x => takesR x day) := by
  induction r with
  | nil => intro l _; simp [afterP]
  | cons x r ih =>
    intro l h
    simp only [List.all_cons, Bool.and_eq_true] at h
    have := ih (applyP l x) h.2
    rw [apply_has (valid_days h.1)] at this
    have e : afterP l (x :: r) = afterP (applyP l x) r := rfl
    rw [e, this]
    simp only [List.any_cons]
    cases (onS l day).2 <;> cases takesR x day <;> simp
theorem law5_fin (l : List Sn) (r : List Ru) (day : Int) (h : r.all validP = true) :
    (((headB && ((onS (afterP l r) day).2 == (onS (afterP l r.reverse) day).2)) && ((onS (afterP l r) day).2 == (onS (afterP l (r ++ r.reverse)) day).2)) = true) := by
  have h1 : r.reverse.all validP = true := by rw [List.all_reverse]; exact h
  have h2 : (r ++ r.reverse).all validP = true := by rw [List.all_append, h, h1]; rfl
  rw [head_true, on_after day r l h, on_after day _ l h1, on_after day _ l h2, List.any_append, List.any_reverse, Bool.or_self]
  simp
end Go.Proofs.Ythmimpiegnnmdaa
