/- Final rulings, and lifts. -/
import Derived.Test.YthmimpiegnnmdaaLaw3
namespace Go.Proofs.Ythmimpiegnnmdaa
open Go.RowKit
set_option linter.unusedSimpArgs false
set_option linter.unusedVariables false
variable {f : ByteArray → Bool} {kn : Int} {m m' : ByteArray → Bool}

theorem lf_fin {q : ByteArray} (hf : f q = true) (l : List Ru) : lfS f kn nonS l q = false := by
  induction l with
  | nil => rfl
  | cons r l ih =>
    simp only [lfS, ih, Bool.false_or]
    by_cases e : r.lf = q
    · subst e
      by_cases k6 : r.kd = 6
      · simp [skS, k6, hf]
      · simp [k6]
    · simp [e]
theorem lf_none {q : ByteArray} (l : List Ru) (h : ∀ r ∈ l, r.kd ≠ 6) : lfS f kn nonS l q = false := by
  induction l with
  | nil => rfl
  | cons r l ih =>
    simp [lfS, ih fun s hs => h s (by simp [hs]), h r (by simp)]
theorem lf_up {q : ByteArray} (h : m q = true) (l : List Ru) : lfS f kn m l q = true := by
  induction l with
  | nil => exact h
  | cons r l ih => simp only [lfS, ih, Bool.true_or]
theorem ids_get (l : List Ru) (q : ByteArray) : ∀ mm : Mb, mgetB (l.foldl idsS mm) q = (mgetB mm q || l.any fun r => decide (r.id = q)) := by
  induction l with
  | nil => intro mm; simp
  | cons r l ih =>
    intro mm
    simp only [List.foldl_cons, ih, idsS, mput_get, List.any_cons]
    by_cases e : r.id = q <;> simp [e]
theorem ids_any (l : List Ru) (q : ByteArray) : mgetB (idsM l) q = l.any fun r => decide (r.id = q) := by
  unfold idsM; rw [ids_get]; rfl
theorem ot_out {q : ByteArray} (l : List Ru) (h : ∀ r ∈ l, r.id ≠ q) : (otS f kn m l).any (fun r => decide (r.id = q)) = false := by
  rw [List.any_eq_false]
  intro r hr
  have := h r ((ot_sub l).subset hr)
  simpa using this
/-- Whether the ruling at place i is skipped. -/
def skAt (l : List Ru) (kn : Int) (i : Nat) : Bool := skS (oneF l kn) kn (lfS (oneF l kn) kn nonS (l.drop (i + 1)) (l.getD i Ru.z).id) (l.getD i Ru.z)
theorem in_at {l : List Ru} {kn : Int} (h : OkC l kn) {i : Nat} (hi : i < l.length) : mgetB (idsM (countP l kn).1) (l.getD i Ru.z).id = !skAt l kn i := by
  have ha := (apart_pw l).1 h.apart
  have e : l = l.take i ++ l.getD i Ru.z :: l.drop (i + 1) := by rw [← drop_get l i Ru.z hi, List.take_append_drop]
  have hp : (l.take i ++ l.getD i Ru.z :: l.drop (i + 1)).Pairwise fun x y => x.id ≠ y.id := e ▸ ha
  rw [List.pairwise_append, List.pairwise_cons] at hp
  obtain ⟨_, ⟨h2, _⟩, h3⟩ := hp
  rw [count_ok h, ids_any]
  have e2 : otS (oneF l kn) kn nonS l = otS (oneF l kn) kn nonS (l.take i ++ l.getD i Ru.z :: l.drop (i + 1)) := congrArg _ e
  show (otS (oneF l kn) kn nonS l).any _ = _
  rw [e2, ot_app, List.any_append, ot_out _ (fun x hx => h3 x hx _ (by simp)), Bool.false_or]
  unfold skAt
  simp only [otS]
  cases hs : skS (oneF l kn) kn (lfS (oneF l kn) kn nonS (l.drop (i + 1)) (l.getD i Ru.z).id) (l.getD i Ru.z) with
  | true => rw [cond_true, ot_out _ (fun x hx => (h2 x hx).symm)]; rfl
  | false => simp
theorem fin_one {l : List Ru} {kn : Int} (h : OkC l kn) (q : ByteArray) : mgetB (finM l kn) q = oneF l kn q := fin_eq l kn q h.apart
def isL (r : Ru) : Bool := decide (r.kd = 6)
theorem law7_a {l : List Ru} {kn : Int} (h : OkC l kn) {i : Nat} (hi : i < l.length) {idle inn lifts : Bool} (h1 : idle = (decide ((l.getD i Ru.z).kd = 6) && mgetB (finM l kn) (l.getD i Ru.z).lf))
    (h2 : inn = mgetB (idsM (countP l kn).1) (l.getD i Ru.z).id) (h3 : lifts = l.any isL) :
    ((l.getD i Ru.z).fin = true → inn = (decide ((l.getD i Ru.z).kn ≤ kn) && !idle)) ∧ (idle && inn) = false ∧ (lifts = false → inn = decide ((l.getD i Ru.z).kn ≤ kn)) := by
  rw [in_at h hi] at h2
  rw [fin_one h] at h1
  have hk : decide (kn < (l.getD i Ru.z).kn) = !decide ((l.getD i Ru.z).kn ≤ kn) := by
    by_cases e : (l.getD i Ru.z).kn ≤ kn
    · rw [decide_eq_true e, decide_eq_false (by omega)]; rfl
    · rw [decide_eq_false e, decide_eq_true (by omega)]; rfl
  unfold skAt skS at h2
  rw [← h1, hk] at h2
  refine ⟨fun hf => ?_, ?_, fun hl => ?_⟩
  · cases hkn : decide ((l.getD i Ru.z).kn ≤ kn) with
    | false => rw [h2, hkn]; simp
    | true =>
      have hq : oneF l kn (l.getD i Ru.z).id = true := by
        unfold oneF finalR
        rw [List.any_eq_true]
        exact ⟨l.getD i Ru.z, getD_mem hi, by unfold finP; rw [hf, hkn]; simp⟩
      rw [h2, hkn, lf_fin hq]; simp
  · rw [h2]; cases idle <;> simp
  · rw [h3, List.any_eq_false] at hl
    have hn : ∀ r ∈ l, r.kd ≠ 6 := fun r hr => by have := hl r hr; simpa [isL] using this
    have hi0 : idle = false := by rw [h1, decide_eq_false (hn _ (getD_mem hi)), Bool.false_and]
    rw [h2, lf_none _ (fun r hr => hn r (List.mem_of_mem_drop hr)), hi0]; simp
theorem law7_b {l : List Ru} {kn : Int} (h : OkC l kn) {i k : Nat} (hi : i < l.length) (hk : k < i) (h6 : (l.getD i Ru.z).kd = 6) (h1 : mgetB (idsM (countP l kn).1) (l.getD i Ru.z).id = true)
    (h2 : (l.getD k Ru.z).id = (l.getD i Ru.z).lf) : mgetB (idsM (countP l kn).1) (l.getD k Ru.z).id = false := by
  rw [in_at h hi] at h1
  rw [in_at h (by omega : k < l.length)]
  have e : l.drop (k + 1) = (l.drop (k + 1)).take (i - (k + 1)) ++ l.getD i Ru.z :: l.drop (i + 1) := by
    rw [← drop_get l i Ru.z hi]
    have : l.drop i = (l.drop (k + 1)).drop (i - (k + 1)) := by rw [List.drop_drop]; congr 1; omega
    rw [this, List.take_append_drop]
  have hL : lfS (oneF l kn) kn nonS (l.drop (k + 1)) (l.getD k Ru.z).id = true := by
    rw [e, lf_app]
    refine lf_up ?_ _
    unfold skAt at h1
    simp only [lfS, h1, h6, h2, decide_true, Bool.and_true, Bool.or_true]
  unfold skAt skS
  rw [hL]; simp
theorem law7_no {fin inn K idle lifts : Bool} (g1 : fin = true → inn = (K && !idle)) (g2 : (idle && inn) = false) (g3 : lifts = false → inn = K) :
    (((fin && (!(inn == (K && (!idle))))) || (idle && inn)) || ((!lifts) && (!(inn == K)))) = false := by
  cases fin <;> cases inn <;> cases K <;> cases idle <;> cases lifts <;> first | rfl | exact absurd g2 (by decide) | exact absurd (g1 rfl) (by decide) | exact absurd (g3 rfl) (by decide)
end Go.Proofs.Ythmimpiegnnmdaa
