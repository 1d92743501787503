/- Which rulings count: the plain laws. -/
import Derived.Test.YthmimpiegnnmdaaLaw2
namespace Go.Proofs.Ythmimpiegnnmdaa
open Go.RowKit
set_option linter.unusedSimpArgs false
set_option linter.unusedVariables false

def skS (f : ByteArray → Bool) (kn : Int) (lq : Bool) (r : Ru) : Bool := (decide (kn < r.kn) || (decide (r.kd = 6) && f r.lf)) || lq
/-- What is lifted by a list's rulings, counted from the end, if m is lifted behind them. -/
def lfS (f : ByteArray → Bool) (kn : Int) (m : ByteArray → Bool) : List Ru → ByteArray → Bool
  | [], q => m q
  | r :: t, q => lfS f kn m t q || ((!skS f kn (lfS f kn m t r.id) r && decide (r.kd = 6)) && decide (r.lf = q))
def otS (f : ByteArray → Bool) (kn : Int) (m : ByteArray → Bool) : List Ru → List Ru
  | [] => []
  | r :: t => bif skS f kn (lfS f kn m t r.id) r then otS f kn m t else r :: otS f kn m t
def nonS : ByteArray → Bool := fun _ => false
variable {f : ByteArray → Bool} {kn : Int} {m m' : ByteArray → Bool}
theorem cnt_ot (fm : Mb) (kn : Int) (l : List Ru) : (cntL fm kn l).2.reverse = otS (mgetB fm) kn nonS l ∧ ∀ q, mgetB (cntL fm kn l).1 q = lfS (mgetB fm) kn nonS l q := by
  induction l with
  | nil => exact ⟨rfl, fun q => rfl⟩
  | cons r l ih =>
    obtain ⟨h1, h2⟩ := ih
    have hs : skipC fm kn (cntL fm kn l).1 r = skS (mgetB fm) kn (lfS (mgetB fm) kn nonS l r.id) r := by
      unfold skipC skS; rw [h2]
    simp only [cntL, stepC, otS, lfS, hs]
    cases hk : skS (mgetB fm) kn (lfS (mgetB fm) kn nonS l r.id) r with
    | true => simp only [cond_true]; exact ⟨h1, fun q => by rw [h2]; simp⟩
    | false =>
      simp only [cond_false, List.reverse_append, List.reverse_cons, List.reverse_nil, List.nil_append, h1]
      refine ⟨rfl, fun q => ?_⟩
      by_cases k6 : r.kd = 6
      · simp only [k6, decide_true, cond_true, mput_get, Bool.not_false, Bool.true_and]
        by_cases e : r.lf = q
        · simp [e]
        · simp [e, h2]
      · simp [k6, h2]
theorem lf_app (l s : List Ru) (q : ByteArray) : lfS f kn m (l ++ s) q = lfS f kn (lfS f kn m s) l q := by
  induction l generalizing q with
  | nil => rfl
  | cons r l ih => simp only [List.cons_append, lfS, ih]
theorem ot_app (l s : List Ru) : otS f kn m (l ++ s) = otS f kn (lfS f kn m s) l ++ otS f kn m s := by
  induction l with
  | nil => rfl
  | cons r l ih =>
    simp only [List.cons_append, otS, ih, lf_app]
    cases skS f kn (lfS f kn (lfS f kn m s) l r.id) r <;> rfl
theorem ot_congr (l : List Ru) (h : ∀ r ∈ l, m r.id = m' r.id) : otS f kn m l = otS f kn m' l ∧ ∀ q, m q = m' q → lfS f kn m l q = lfS f kn m' l q := by
  induction l with
  | nil => exact ⟨rfl, fun q hq => hq⟩
  | cons r l ih =>
    obtain ⟨h1, h2⟩ := ih fun s hs => h s (by simp [hs])
    have e := h2 r.id (h r (by simp))
    refine ⟨by simp only [otS, e, h1], fun q hq => by simp only [lfS, e, h2 q hq]⟩
theorem ot_sub (l : List Ru) : List.Sublist (otS f kn m l) l := by
  induction l with
  | nil => exact .slnil
  | cons r l ih =>
    simp only [otS]
    cases skS f kn (lfS f kn m l r.id) r with
    | true => exact .cons _ ih
    | false => exact .cons_cons _ ih
theorem ot_known (l : List Ru) : ∀ r ∈ otS f kn m l, r.kn ≤ kn := by
  induction l with
  | nil => intro r h; simp [otS] at h
  | cons s l ih =>
    intro r h
    simp only [otS] at h
    cases hk : skS f kn (lfS f kn m l s.id) s with
    | true => rw [hk] at h; exact ih r h
    | false =>
      rw [hk] at h
      simp only [cond_false, List.mem_cons] at h
      rcases h with rfl | h
      · simp only [skS, Bool.or_eq_false_iff, decide_eq_false_iff_not] at hk; omega
      · exact ih r h
theorem ot_filter (p : Ru → Bool) (l : List Ru) (h : ∀ r ∈ l, p r = false → kn < r.kn) : otS f kn m (l.filter p) = otS f kn m l ∧ ∀ q, lfS f kn m (l.filter p) q = lfS f kn m l q := by
  induction l with
  | nil => exact ⟨rfl, fun q => rfl⟩
  | cons r l ih =>
    obtain ⟨h1, h2⟩ := ih fun s hs => h s (by simp [hs])
    cases hp : p r with
    | true => simp only [List.filter_cons, hp, if_true, otS, lfS, h1, h2]; exact ⟨trivial, fun q => trivial⟩
    | false =>
      have hk : skS f kn (lfS f kn m l r.id) r = true := by simp [skS, h r (by simp) hp]
      simp only [List.filter_cons, hp, otS, lfS, h1, h2, hk, cond_true, Bool.not_true, Bool.false_and, Bool.or_false]
      exact ⟨h1, h2⟩
theorem ot_skip (a b : List Ru) (r : Ru) (h : skS f kn (lfS f kn m b r.id) r = true) : otS f kn m (a ++ r :: b) = otS f kn m (a ++ b) := by
  rw [ot_app, ot_app]
  have e : ∀ q, lfS f kn m (r :: b) q = lfS f kn m b q := fun q => by simp only [lfS, h, Bool.not_true, Bool.false_and, Bool.or_false]
  rw [(ot_congr a fun x _ => e x.id).1]
  simp only [otS, h, cond_true]
theorem ot_one (r : Ru) : otS f kn m [r] = bif skS f kn (m r.id) r then [] else [r] := rfl
/-! ### When the counting answers -/
structure OkC (l : List Ru) (kn : Int) : Prop where
  day : daysP [kn] = true
  len : l.length ≤ 200
  val : ∀ r ∈ l, validP r = true
  apart : apartR l
def oneF (l : List Ru) (kn : Int) : ByteArray → Bool := fun q => finalR l q kn
theorem ot_ext {g : ByteArray → Bool} (l : List Ru) (h : ∀ q, f q = g q) : otS f kn m l = otS g kn m l := by
  have : f = g := funext h
  rw [this]
theorem count_cases (l : List Ru) (kn : Int) : (OkC l kn ∧ countP l kn = (otS (oneF l kn) kn nonS l, 0)) ∨ (¬ OkC l kn ∧ (countP l kn).2 ≠ 0 ∧ (countP l kn).1 = [] ∧ (daysP [kn] = true → l.length ≤ 200 → (∀ r ∈ l, validP r = true) → (countP l kn).2 = 9)) := by
  unfold countP
  cases h1 : daysP [kn] with
  | false => right; refine ⟨fun h => (by rw [h.day] at h1; cases h1), by simp, rfl, fun h => (by cases h)⟩
  | true =>
    simp only [Bool.not_true, cond_false]
    cases h2 : decide ((200 : Int) < (l.length : Int)) with
    | true =>
      simp only [decide_eq_true_eq] at h2
      right; refine ⟨fun h => by have := h.len; omega, by simp, rfl, fun _ h => by omega⟩
    | false =>
      simp only [decide_eq_false_iff_not] at h2
      simp only [cond_false]
      cases h3 : l.any notValid with
      | true =>
        rw [List.any_eq_true] at h3
        obtain ⟨r, hr, hv⟩ := h3
        have hv' : validP r = false := by simpa [notValid] using hv
        right; refine ⟨fun h => (by rw [h.val r hr] at hv'; cases hv'), by simp, rfl, fun _ _ h => (by rw [h r hr] at hv'; cases hv')⟩
      | false =>
        have hv : ∀ r ∈ l, validP r = true := fun r hr => by
          have := List.any_eq_false.1 h3 r hr
          simpa [notValid] using this
        simp only [cond_false]
        rw [dup_eq]
        cases h4 : dupR l with
        | true =>
          right; refine ⟨fun h => (by rw [(dup_iff l).2 h.apart] at h4; cases h4), by simp, rfl, fun _ _ _ => rfl⟩
        | false =>
          left
          have ha := (dup_iff l).1 h4
          refine ⟨⟨h1, by omega, hv, ha⟩, ?_⟩
          simp only [cond_false]
          rw [(cnt_ot (finM l kn) kn l).1, ot_ext l fun q => fin_eq l kn q ha]; rfl
theorem count_ok {l : List Ru} {kn : Int} (h : OkC l kn) : countP l kn = (otS (oneF l kn) kn nonS l, 0) := by
  rcases count_cases l kn with ⟨_, h2⟩ | ⟨h2, _⟩
  · exact h2
  · exact absurd h h2
theorem count_was {l : List Ru} {kn : Int} (h : (countP l kn).2 = 0) : OkC l kn := by
  rcases count_cases l kn with ⟨h1, _⟩ | ⟨_, h2, _⟩
  · exact h1
  · exact absurd h h2
theorem count_no {l : List Ru} {kn : Int} (h : (countP l kn).2 ≠ 0) : (countP l kn).1 = [] := by
  rcases count_cases l kn with ⟨_, h1⟩ | ⟨_, _, h2, _⟩
  · rw [h1] at h; exact absurd rfl h
  · exact h2
theorem apart_pw (l : List Ru) : apartR l ↔ l.Pairwise fun x y => x.id ≠ y.id := by
  induction l with
  | nil => exact ⟨fun _ => .nil, fun _ => trivial⟩
  | cons r l ih =>
    rw [List.pairwise_cons, ← ih]
    exact ⟨fun h => ⟨fun s hs => (h.1 s hs).symm, h.2⟩, fun h => ⟨fun s hs => (h.1 s hs).symm, h.2⟩⟩
theorem OkC.sub {l s : List Ru} {kn : Int} (h : OkC l kn) (hs : List.Sublist s l) : OkC s kn :=
  ⟨h.day, Nat.le_trans hs.length_le h.len, fun r hr => h.val r (hs.subset hr), (apart_pw s).2 (((apart_pw l).1 h.apart).sublist hs)⟩
end Go.Proofs.Ythmimpiegnnmdaa
