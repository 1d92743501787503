/- What a ruling takes away. -/
import Derived.Test.YthmimpiegnnmdaaLaw1
namespace Go.Proofs.Ythmimpiegnnmdaa
open Go.RowKit
set_option linter.unusedSimpArgs false
set_option linter.unusedVariables false

def addL (s : Sn) : List Sn := bif emptyS s then [] else [s]
/-- What is left of one span. -/
def leftS (r : Ru) (s : Sn) : List Sn :=
  bif decide (r.kd = 1) || emptyS s then []
  else bif decide (r.kd = 2) then addL (beforeS s r.a)
  else bif decide (r.kd = 3) then addL (beforeS s r.b)
  else bif decide (r.kd = 4) then addL (beforeS s r.a) ++ addL (fromS s r.b)
  else bif decide (r.kd = 5) then addL (beforeS s r.a) ++ addL (readS s r)
  else addL s
theorem addS_app (o : List Sn) (s : Sn) : addS o s = o ++ addL s := by
  unfold addS addL; cases emptyS s <;> simp
theorem stepA_app (r : Ru) (o : List Sn) (s : Sn) : stepA r o s = o ++ leftS r s := by
  unfold stepA leftS
  simp only [addS_app]
  cases decide (r.kd = 1) || emptyS s <;> cases decide (r.kd = 2) <;> cases decide (r.kd = 3) <;> cases decide (r.kd = 4) <;> cases decide (r.kd = 5) <;> simp
theorem fold_flat (r : Ru) (l : List Sn) : ∀ o, l.foldl (stepA r) o = o ++ l.flatMap (leftS r) := by
  induction l with
  | nil => intro o; simp
  | cons s l ih => intro o; simp only [List.foldl_cons, ih, stepA_app, List.flatMap_cons, List.append_assoc]
/-- A ruling whose days are days. -/
def DayOk (r : Ru) : Prop := 0 ≤ r.a ∧ r.a ≤ 1000000 ∧ 0 ≤ r.b ∧ r.b ≤ 1000000
theorem apply_flat {l : List Sn} {r : Ru} (h : DayOk r) : applyP l r = l.flatMap (leftS r) := by
  rw [apply_eq, applyB]
  have : badD r = false := by
    unfold badD
    simp [h.1, h.2.1, h.2.2.1, h.2.2.2]
  rw [this, cond_false, fold_flat, List.nil_append]
theorem valid_days {r : Ru} (h : validP r = true) : DayOk r := by
  unfold validP at h
  rw [days_cons, days_cons r.b, days1, days1] at h
  unfold DayOk
  cases h1 : (decide (0 ≤ r.a) && decide (r.a ≤ 1000000)) <;> rw [h1] at h
  · simp at h
  · cases h2 : (decide (0 ≤ r.b) && decide (r.b ≤ 1000000)) <;> rw [h2] at h
    · simp at h
    · simp only [Bool.and_eq_true, decide_eq_true_eq] at h1 h2
      exact ⟨h1.1, h1.2, h2.1, h2.2⟩
theorem on_any (l : List Sn) (n : Int) : (onS l n).2 = l.any fun s => hasS s n := by
  induction l with
  | nil => rfl
  | cons s l ih =>
    simp only [onS, List.any_cons]
    cases hasS s n <;> simp [ih]
theorem has_iff (s : Sn) (n : Int) : hasS s n = true ↔ s.a ≤ n ∧ (s.b = -1 ∨ n < s.b) := by simp [hasS]
theorem empty_iff (s : Sn) : emptyS s = true ↔ s.b ≠ -1 ∧ s.b ≤ s.a := by simp [emptyS]
theorem empty_has {s : Sn} (h : emptyS s = true) (n : Int) : hasS s n = false := by
  rw [empty_iff] at h
  cases hh : hasS s n with
  | false => rfl
  | true => rw [has_iff] at hh; omega
theorem addL_any (s : Sn) (n : Int) : ((addL s).any fun s => hasS s n) = hasS s n := by
  unfold addL
  cases h : emptyS s with
  | true => simp [empty_has h]
  | false => simp
theorem bool_iff {a b : Bool} (h : a = true ↔ b = true) : a = b := by cases a <;> cases b <;> simp_all
theorem before_has {s : Sn} {m : Int} (h : 0 ≤ m) (n : Int) : hasS (beforeS s m) n = (hasS s n && decide (n < m)) := by
  apply bool_iff
  rw [Bool.and_eq_true, has_iff, has_iff, decide_eq_true_eq]
  unfold beforeS
  by_cases hb : s.b = -1
  · simp [hb]; omega
  · by_cases h2 : m < s.b
    · simp [hb, h2]; omega
    · simp [hb, h2]; omega
theorem from_has (s : Sn) (m n : Int) : hasS (fromS s m) n = (hasS s n && decide (m ≤ n)) := by
  apply bool_iff
  rw [Bool.and_eq_true, has_iff, has_iff, decide_eq_true_eq]
  unfold fromS mx
  by_cases h : m > s.a
  · simp [h]; omega
  · simp [h]; omega
theorem read_has (s : Sn) (r : Ru) (n : Int) : hasS (readS s r) n = hasS (fromS s r.a) n := by
  unfold readS hasS; cases decide (s.f.op = 1) <;> rfl
theorem lt_le (a b : Int) : decide (a < b) = !decide (b ≤ a) := by
  by_cases h : a < b
  · have : ¬ b ≤ a := by omega
    simp [h, this]
  · have : b ≤ a := by omega
    simp [h, this]
theorem left_has {r : Ru} (h : DayOk r) (s : Sn) (n : Int) : ((leftS r s).any fun s => hasS s n) = (hasS s n && !takesR r n) := by
  obtain ⟨ha, _, hb, _⟩ := h
  cases he : emptyS s with
  | true => unfold leftS; simp [he, empty_has he]
  | false =>
    by_cases k1 : r.kd = 1
    · unfold leftS takesR; simp [k1]
    · unfold leftS
      rw [he, show decide (r.kd = 1) = false by simp [k1], Bool.or_false, cond_false]
      by_cases k2 : r.kd = 2
      · have ht : takesR r n = decide (r.a ≤ n) := by unfold takesR; simp [k2]
        rw [show decide (r.kd = 2) = true by simp [k2], cond_true, addL_any, before_has ha, ht, lt_le]
      · rw [show decide (r.kd = 2) = false by simp [k2], cond_false]
        by_cases k3 : r.kd = 3
        · have ht : takesR r n = decide (r.b ≤ n) := by unfold takesR; simp [k3]
          rw [show decide (r.kd = 3) = true by simp [k3], cond_true, addL_any, before_has hb, ht, lt_le]
        · rw [show decide (r.kd = 3) = false by simp [k3], cond_false]
          by_cases k4 : r.kd = 4
          · have ht : takesR r n = (decide (r.a ≤ n) && decide (n < r.b)) := by unfold takesR; simp [k4]
            rw [show decide (r.kd = 4) = true by simp [k4], cond_true, List.any_append, addL_any, addL_any, before_has ha, from_has, ht, lt_le, lt_le]
            cases hasS s n <;> cases decide (r.a ≤ n) <;> cases decide (r.b ≤ n) <;> rfl
          · rw [show decide (r.kd = 4) = false by simp [k4], cond_false]
            have ht : takesR r n = false := by unfold takesR; simp [k1, k2, k3, k4]
            by_cases k5 : r.kd = 5
            · rw [show decide (r.kd = 5) = true by simp [k5], cond_true, List.any_append, addL_any, addL_any, before_has ha, read_has, from_has, ht, lt_le]
              cases hasS s n <;> cases decide (r.a ≤ n) <;> rfl
            · rw [show decide (r.kd = 5) = false by simp [k5], cond_false, addL_any, ht]; simp
theorem apply_has {l : List Sn} {r : Ru} (h : DayOk r) (n : Int) : (onS (applyP l r) n).2 = ((onS l n).2 && !takesR r n) := by
  rw [apply_flat h, on_any, on_any, List.any_flatMap]
  induction l with
  | nil => rfl
  | cons s l ih =>
    simp only [List.any_cons, ih, left_has h]
    cases takesR r n <;> simp
/-! ### Order -/
def RS (x y : Sn) : Prop := x.b ≠ -1 ∧ x.b ≤ y.a
structure OrdS (l : List Sn) : Prop where
  ne : ∀ s ∈ l, emptyS s = false
  pw : l.Pairwise RS
theorem ordered_iff (l : List Sn) : orderedB l = true ↔ OrdS l := by
  have key : orderedB l = true ↔ (∀ i, i < l.length → emptyS (l.getD i Sn.z) = false) ∧ (∀ i, i + 1 < l.length → RS (l.getD i Sn.z) (l.getD (i + 1) Sn.z)) := by
    unfold orderedB
    rw [List.all_eq_true]
    constructor
    · intro h
      have g : ∀ i, i < l.length → unordAt l i = false := fun i hi => by simpa using h i (List.mem_range.2 hi)
      refine ⟨fun i hi => ?_, fun i hi => ?_⟩
      · have := g i hi
        unfold unordAt at this
        rw [Bool.or_eq_false_iff] at this
        exact this.1
      · have := g (i + 1) hi
        unfold unordAt at this
        rw [Bool.or_eq_false_iff] at this
        have h2 := this.2
        have e : decide ((0 : Int) < ((i + 1 : Nat) : Int)) = true := by simp
        rw [e, Bool.true_and, Bool.or_eq_false_iff, decide_eq_false_iff_not, decide_eq_false_iff_not] at h2
        simp only [Nat.add_sub_cancel] at h2
        exact ⟨h2.1, by omega⟩
    · rintro ⟨h1, h2⟩ i hi
      have hi' := List.mem_range.1 hi
      have e1 := h1 i hi'
      have : unordAt l i = false := by
        unfold unordAt
        rw [Bool.or_eq_false_iff]
        refine ⟨e1, ?_⟩
        cases i with
        | zero => simp
        | succ i =>
          have := h2 i hi'
          obtain ⟨g1, g2⟩ := this
          simp only [Nat.add_sub_cancel]
          rw [Bool.and_eq_false_iff]
          right
          rw [Bool.or_eq_false_iff, decide_eq_false_iff_not, decide_eq_false_iff_not]
          exact ⟨g1, by omega⟩
      rw [this]; rfl
  rw [key]
  clear key
  constructor
  · intro h
    induction l with
    | nil => exact ⟨fun s hs => by simp at hs, List.Pairwise.nil⟩
    | cons s l ih =>
      have hl := ih ⟨fun i hi => by have := h.1 (i + 1) (by simp; omega); simpa using this, fun i hi => by have := h.2 (i + 1) (by simp; omega); simpa using this⟩
      refine ⟨fun x hx => ?_, List.pairwise_cons.2 ⟨fun x hx => ?_, hl.pw⟩⟩
      · simp at hx
        rcases hx with rfl | hx
        · have := h.1 0 (by simp); simpa using this
        · exact hl.ne x hx
      · cases l with
        | nil => simp at hx
        | cons y l =>
          have h0 := h.2 0 (by simp)
          simp at h0
          simp at hx
          rcases hx with rfl | hx
          · exact h0
          · have hyx := (List.pairwise_cons.1 hl.pw).1 x hx
            have hny := hl.ne y (by simp)
            obtain ⟨g1, g2⟩ := hyx
            refine ⟨h0.1, ?_⟩
            have := h0.2
            have : ¬ (y.b ≠ -1 ∧ y.b ≤ y.a) := fun c => by rw [(empty_iff y).2 c] at hny; cases hny
            omega
  · rintro ⟨h1, h2⟩
    refine ⟨fun i hi => h1 _ (getD_mem hi), fun i hi => ?_⟩
    have := List.pairwise_iff_getElem.1 h2 i (i + 1) (by omega) hi (by omega)
    rw [getD_of_lt (by omega), getD_of_lt hi]; exact this
/-- A span within another one. -/
structure InS (x s : Sn) : Prop where
  a : s.a ≤ x.a
  b : x.b = -1 → s.b = -1
  c : s.b ≠ -1 → x.b ≤ s.b
theorem addL_mem {x s : Sn} (h : x ∈ addL s) : x = s ∧ emptyS x = false := by
  unfold addL at h
  cases he : emptyS s with
  | true => rw [he] at h; simp at h
  | false => rw [he] at h; simp at h; exact ⟨h, by rw [h]; exact he⟩
theorem before_in {s : Sn} {m : Int} (h : 0 ≤ m) : InS (beforeS s m) s := by
  unfold beforeS
  by_cases hb : s.b = -1
  · refine ⟨Int.le_refl _, fun _ => hb, fun c => absurd hb c⟩
  · by_cases h2 : m < s.b
    · refine ⟨Int.le_refl _, ?_, ?_⟩ <;> simp [hb, h2] <;> omega
    · refine ⟨Int.le_refl _, ?_, ?_⟩ <;> simp [hb, h2]
theorem from_in (s : Sn) (m : Int) : InS (fromS s m) s := by
  unfold fromS mx
  refine ⟨?_, fun h => h, fun _ => Int.le_refl _⟩
  simp only
  split <;> omega
theorem read_ab (s : Sn) (r : Ru) : (readS s r).a = (fromS s r.a).a ∧ (readS s r).b = (fromS s r.a).b := by
  unfold readS; cases decide (s.f.op = 1) <;> exact ⟨rfl, rfl⟩
theorem read_in (s : Sn) (r : Ru) : InS (readS s r) s := by
  have h := from_in s r.a
  obtain ⟨e1, e2⟩ := read_ab s r
  exact ⟨by rw [e1]; exact h.a, by rw [e2]; exact h.b, by rw [e2]; exact h.c⟩
theorem self_in (s : Sn) : InS s s := ⟨Int.le_refl _, fun h => h, fun _ => Int.le_refl _⟩
theorem left_ok {r : Ru} (h : DayOk r) (hab : r.kd = 4 → r.a ≤ r.b) (s : Sn) : (∀ x ∈ leftS r s, InS x s ∧ emptyS x = false) ∧ (leftS r s).Pairwise RS := by
  obtain ⟨ha, _, hb, _⟩ := h
  have one : ∀ t : Sn, InS t s → (∀ x ∈ addL t, InS x s ∧ emptyS x = false) ∧ (addL t).Pairwise RS := by
    intro t ht
    refine ⟨fun x hx => by obtain ⟨rfl, h2⟩ := addL_mem hx; exact ⟨ht, h2⟩, ?_⟩
    unfold addL; cases emptyS t <;> simp
  have two : ∀ (t u : Sn), InS t s → InS u s → RS t u → (∀ x ∈ addL t ++ addL u, InS x s ∧ emptyS x = false) ∧ (addL t ++ addL u).Pairwise RS := by
    intro t u ht hu hr
    refine ⟨fun x hx => ?_, List.pairwise_append.2 ⟨(one t ht).2, (one u hu).2, fun x hx y hy => ?_⟩⟩
    · rcases List.mem_append.1 hx with hx | hx
      · exact (one t ht).1 x hx
      · exact (one u hu).1 x hx
    · obtain ⟨rfl, _⟩ := addL_mem hx
      obtain ⟨rfl, _⟩ := addL_mem hy
      exact hr
  have bf : ∀ m n : Int, 0 ≤ m → m ≤ n → ∀ u : Sn, n ≤ u.a → RS (beforeS s m) u := by
    intro m n hm hmn u hu
    unfold beforeS RS
    by_cases hbb : s.b = -1
    · simp [hbb]; omega
    · by_cases h2 : m < s.b
      · simp [hbb, h2]; omega
      · simp [hbb, h2]; omega
  have fa : ∀ m : Int, m ≤ (fromS s m).a := by
    intro m; unfold fromS mx; simp only; split <;> omega
  unfold leftS
  cases (decide (r.kd = 1) || emptyS s)
  · simp only [cond_false]
    by_cases k2 : r.kd = 2
    · simp only [k2, decide_true, cond_true]; exact one _ (before_in ha)
    · by_cases k3 : r.kd = 3
      · simp only [k3]; exact one _ (before_in hb)
      · by_cases k4 : r.kd = 4
        · simp only [k4]; exact two _ _ (before_in ha) (from_in s r.b) (bf r.a r.b ha (hab k4) _ (fa r.b))
        · by_cases k5 : r.kd = 5
          · simp only [k5]
            exact two _ _ (before_in ha) (read_in s r) (bf r.a r.a ha (Int.le_refl _) _ (by rw [(read_ab s r).1]; exact fa r.a))
          · simp only [k2, k3, k4, k5, decide_false, cond_false]; exact one s (self_in s)
  · exact ⟨fun x hx => by simp at hx, List.Pairwise.nil⟩
theorem apply_ord {l : List Sn} {r : Ru} (h : DayOk r) (hab : r.kd = 4 → r.a ≤ r.b) (ho : OrdS l) : OrdS (applyP l r) := by
  rw [apply_flat h]
  refine ⟨fun x hx => ?_, List.pairwise_flatMap.2 ⟨fun s _ => (left_ok h hab s).2, ?_⟩⟩
  · obtain ⟨s, _, hx⟩ := List.mem_flatMap.1 hx
    exact ((left_ok h hab s).1 x hx).2
  · refine ho.pw.imp fun {s t} hst x hx y hy => ?_
    have h1 := ((left_ok h hab s).1 x hx).1
    have h2 := ((left_ok h hab t).1 y hy).1
    obtain ⟨g1, g2⟩ := hst
    refine ⟨fun c => g1 (h1.b c), ?_⟩
    have := h1.c g1
    have := h2.a
    omega
theorem valid_stay {r : Ru} (h : validP r = true) (k : r.kd = 4) : r.a ≤ r.b := by
  unfold validP at h
  cases hg : ((!nameP r.id) || (!nameP r.tg)) || (!daysP [r.a, r.b, r.kn]) <;> rw [hg] at h
  · simp [k] at h; omega
  · simp at h
theorem law4_true (l : List Sn) (r : Ru) (day : Int) : law4 l r day = true := by
  unfold law4
  rw [head_true]
  cases hg : ((!(shortS l 20)) || (!(fewR ([r]) 1))) || (!(validP r)) with
  | true => rfl
  | false =>
    have hv : validP r = true := by
      simp only [Bool.or_eq_false_iff, Bool.not_eq_false'] at hg; exact hg.2
    have hd := valid_days hv
    rw [apply_has hd]
    cases ho : orderedB l with
    | false => simp
    | true =>
      have := (ordered_iff _).2 (apply_ord hd (valid_stay hv) ((ordered_iff l).1 ho))
      rw [this]; simp
end Go.Proofs.Ythmimpiegnnmdaa
