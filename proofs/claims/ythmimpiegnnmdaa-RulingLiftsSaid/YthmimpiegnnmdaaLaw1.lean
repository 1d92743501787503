/- The program's answers and the reference's, as plain functions. -/
import Derived.Test.YthmimpiegnnmdaaS7
namespace Go.Proofs.Ythmimpiegnnmdaa
open Go.RowKit
set_option linter.unusedSimpArgs false
set_option linter.unusedVariables false

theorem head_true : headB = true := by kernel_rfl
/-! ### Names, validity -/
theorem allW_range (s : ByteArray) (n : Nat) : allW s n = (List.range n).all fun i => wordC (sbyte s i) := by
  induction n with
  | zero => rfl
  | succ n ih => simp [allW, ih, List.range_succ, List.all_append]
theorem badN_pos {s : ByteArray} {i : Nat} (h : 0 < i) : badN s i = !wordC (sbyte s i) := by
  unfold badN wordC digitC
  have h0 : decide ((i : Int) = 0) = false := by simp; omega
  rw [h0]
  by_cases c1 : sbyte s i = 95
  · rw [c1]; rfl
  · cases letterC (sbyte s i)
    · simp only [Bool.not_false, Bool.false_or, Bool.true_and, c1, decide_false]
      by_cases a : sbyte s i < 48 <;> by_cases b : 57 < sbyte s i <;> simp [a, b] <;> omega
    · simp
theorem badN_zero (s : ByteArray) : badN s 0 = !letterC (sbyte s 0) := by
  unfold badN; simp
theorem letter_word {c : Int} (h : letterC c = true) : wordC c = true := by unfold wordC; rw [h]; rfl
theorem name_eq (s : ByteArray) : nameP s = nameOk s := by
  unfold nameP nameOk
  rw [allW_range]
  cases hn : s.size with
  | zero => rfl
  | succ n =>
    rw [List.range_succ_eq_map]
    simp only [List.all_cons, List.all_map]
    have e : ((fun i => !badN s i) ∘ Nat.succ) = ((fun i => wordC (sbyte s (i : Nat))) ∘ Nat.succ) := by
      funext i
      simp only [Function.comp]
      rw [badN_pos (by omega), Bool.not_not]
    rw [e, badN_zero, Bool.not_not]
    have e0 : (((0 : Nat) : Int)) = 0 := rfl
    rw [e0]
    cases hl : letterC (sbyte s 0) with
    | true => rw [letter_word hl]; simp
    | false => simp
theorem days1 (a : Int) : daysP [a] = (decide (0 ≤ a) && decide (a ≤ 1000000)) := by
  simp only [daysP, List.any_cons, List.any_nil, badDay, Bool.or_false]
  by_cases h1 : a < 0 <;> by_cases h2 : 1000000 < a <;> simp [h1, h2] <;> omega
theorem days_cons (a : Int) (l : List Int) : daysP (a :: l) = (daysP [a] && daysP l) := by
  simp [daysP]
theorem valid_eq (r : Ru) : validP r = validR r := by
  unfold validP validR
  rw [name_eq, name_eq, name_eq, days_cons, days_cons r.b, days1, days1, days1]
  cases nameOk r.id <;> cases nameOk r.tg <;> try rfl
  cases (decide (0 ≤ r.a) && decide (r.a ≤ 1000000)) <;> cases (decide (0 ≤ r.b) && decide (r.b ≤ 1000000)) <;> cases (decide (0 ≤ r.kn) && decide (r.kn ≤ 1000000)) <;> simp only [Bool.not_true, Bool.not_false, Bool.or_true, Bool.true_or, Bool.or_false, Bool.false_or, Bool.and_true, Bool.true_and, Bool.and_false, Bool.false_and, cond_true, cond_false]
  by_cases k6 : r.kd = 6
  · simp [k6]
  by_cases k4 : r.kd = 4
  · simp only [k4]
    by_cases hb : r.b ≤ r.a
    · have : ¬ r.a < r.b := by omega
      simp [hb, this]
    · have : r.a < r.b := by omega
      simp [hb, this]
  by_cases k5 : r.kd = 5
  · simp only [k5]
    by_cases h1 : (200 : Int) < (szF r.f).1
    · have : ¬ (szF r.f).1 ≤ 200 := by omega
      simp [h1, this]
    · have h1' : (szF r.f).1 ≤ 200 := by omega
      by_cases h2 : (20 : Int) < (szF r.f).2
      · have : ¬ (szF r.f).2 ≤ 20 := by omega
        simp [h1, h1', h2, this]
      · have : (szF r.f).2 ≤ 20 := by omega
        simp [h1, h1', h2, this]
  by_cases k1 : r.kd = 1
  · simp [k1]
  by_cases k2 : r.kd = 2
  · simp [k2]
  by_cases k3 : r.kd = 3
  · simp [k3]
  · have : r.kd < 1 ∨ 6 < r.kd := by omega
    rcases this with h | h <;> simp [h, k1, k2, k3, k4, k5, k6]
theorem valid_any (l : List Ru) : l.any notValid = !l.all validR := by
  induction l with
  | nil => rfl
  | cons r l ih => simp only [List.any_cons, List.all_cons, ih, notValid, valid_eq, Bool.not_and]
/-! ### Twice -/
theorem mput_len (m : Mb) (q : ByteArray) (b : Bool) : (mputB m q b).length = if m.any (fun x => decide (x.1 = q)) then m.length else m.length + 1 := by
  induction m with
  | nil => rfl
  | cons x r ih =>
    obtain ⟨k, v⟩ := x
    simp only [mputB, List.any_cons]
    by_cases e : k = q
    · simp [e]
    · simp only [e, if_false, List.length_cons, ih, decide_false, Bool.false_or]
      split <;> rfl
theorem mput_has (m : Mb) (q : ByteArray) (b : Bool) (p : ByteArray) : (mputB m q b).any (fun x => decide (x.1 = p)) = (decide (q = p) || m.any (fun x => decide (x.1 = p))) := by
  induction m with
  | nil => simp [mputB]
  | cons x r ih =>
    obtain ⟨k, v⟩ := x
    simp only [mputB]
    by_cases e : k = q
    · subst e
      simp only [if_true, List.any_cons]
      cases decide (k = p) <;> simp
    · simp only [e, if_false, List.any_cons, ih]
      cases decide (k = p) <;> cases decide (q = p) <;> simp
/-- The names of a list are apart. -/
def apartR : List Ru → Prop
  | [] => True
  | r :: l => (∀ s ∈ l, s.id ≠ r.id) ∧ apartR l
theorem ids_has (l : List Ru) : ∀ (m : Mb) (p : ByteArray), (l.foldl idsS m).any (fun x => decide (x.1 = p)) = (m.any (fun x => decide (x.1 = p)) || l.any fun r => decide (r.id = p)) := by
  induction l with
  | nil => intro m p; simp
  | cons r l ih =>
    intro m p
    simp only [List.foldl_cons, List.any_cons]
    rw [ih, idsS, mput_has]
    cases decide (r.id = p) <;> simp
theorem ids_le (l : List Ru) : ∀ m : Mb, (l.foldl idsS m).length ≤ m.length + l.length := by
  induction l with
  | nil => intro m; simp
  | cons r l ih =>
    intro m
    have := ih (idsS m r)
    simp only [List.foldl_cons, List.length_cons]
    have h2 : (idsS m r).length ≤ m.length + 1 := by
      unfold idsS; rw [mput_len]; split <;> omega
    omega
theorem ids_apart (l : List Ru) : ∀ m : Mb, (l.foldl idsS m).length = m.length + l.length ↔ (apartR l ∧ ∀ r ∈ l, m.any (fun x => decide (x.1 = r.id)) = false) := by
  induction l with
  | nil => intro m; simp [apartR]
  | cons r l ih =>
    intro m
    have hle := ids_le l (idsS m r)
    simp only [List.foldl_cons, List.length_cons]
    have hlen : (idsS m r).length = if m.any (fun x => decide (x.1 = r.id)) then m.length else m.length + 1 := mput_len m r.id true
    by_cases hm : m.any (fun x => decide (x.1 = r.id)) = true
    · rw [if_pos hm] at hlen
      constructor
      · intro h; omega
      · rintro ⟨_, h2⟩
        have := h2 r (by simp)
        rw [hm] at this; cases this
    · rw [if_neg hm] at hlen
      have hm' : m.any (fun x => decide (x.1 = r.id)) = false := (Bool.not_eq_true _).mp hm
      have e : (l.foldl idsS (idsS m r)).length = m.length + (l.length + 1) ↔ (l.foldl idsS (idsS m r)).length = (idsS m r).length + l.length := by omega
      rw [e, ih]
      constructor
      · rintro ⟨h1, h2⟩
        refine ⟨⟨fun s hs => ?_, h1⟩, fun s hs => ?_⟩
        · have := h2 s hs
          rw [idsS, mput_has] at this
          intro he
          simp [he] at this
        · simp at hs
          rcases hs with rfl | hs
          · exact hm'
          · have := h2 s hs
            rw [idsS, mput_has] at this
            simp only [Bool.or_eq_false_iff] at this
            exact this.2
      · rintro ⟨⟨h1, h2⟩, h3⟩
        refine ⟨h2, fun s hs => ?_⟩
        rw [idsS, mput_has, h3 s (by simp [hs]), Bool.or_false]
        simpa using fun e => h1 s hs e.symm
theorem apart_iff (l : List Ru) : apartR l ↔ ∀ i j, i < j → j < l.length → (l.getD i Ru.z).id ≠ (l.getD j Ru.z).id := by
  induction l with
  | nil => simp [apartR]
  | cons r l ih =>
    simp only [apartR]
    rw [ih]
    constructor
    · rintro ⟨h1, h2⟩ i j hij hj
      cases j with
      | zero => omega
      | succ j =>
        simp only [List.length_cons] at hj
        cases i with
        | zero =>
          simp only [List.getD_cons_zero, List.getD_cons_succ]
          exact fun e => h1 _ (getD_mem (by omega)) e.symm
        | succ i =>
          simp only [List.getD_cons_succ]
          exact h2 i j (by omega) (by omega)
    · intro h
      refine ⟨fun s hs e => ?_, fun i j hij hj => ?_⟩
      · obtain ⟨k, hk, rfl⟩ := List.mem_iff_getElem.1 hs
        refine h 0 (k + 1) (by omega) (by simp; omega) ?_
        simp only [List.getD_cons_zero, List.getD_cons_succ]
        rw [getD_of_lt hk]; exact e.symm
      · have := h (i + 1) (j + 1) (by omega) (by simp; omega)
        simpa only [List.getD_cons_succ] using this
theorem dup_iff (l : List Ru) : dupR l = false ↔ apartR l := by
  rw [apart_iff]
  unfold dupR dupAt
  rw [List.any_eq_false]
  constructor
  · intro h i j hij hj e
    have := h j (List.mem_range.2 hj)
    simp only [Bool.not_eq_true, List.any_eq_false] at this
    have h2 := this (l.getD i Ru.z) (by
      rw [getD_of_lt (by omega)]
      exact List.mem_iff_getElem.2 ⟨i, by simp; omega, by simp⟩)
    rw [decide_eq_false_iff_not] at h2
    exact h2 e
  · intro h j hj
    have hj' := List.mem_range.1 hj
    simp only [Bool.not_eq_true, List.any_eq_false]
    intro s hs
    obtain ⟨i, hi, rfl⟩ := List.mem_iff_getElem.1 hs
    simp only [List.length_take] at hi
    have := h i j (by omega) hj'
    rw [getD_of_lt (show i < l.length by omega)] at this
    simpa using this
theorem dup_eq (l : List Ru) : decide ((idsM l).length < l.length) = dupR l := by
  have h1 := ids_apart l []
  have hle := ids_le l []
  unfold idsM
  simp only [List.length_nil, Nat.zero_add, List.any_nil, implies_true, and_true] at h1 hle
  rw [← dup_iff] at h1
  by_cases h : (List.foldl idsS [] l).length < l.length
  · rw [decide_eq_true h]
    cases hd : dupR l with
    | true => rfl
    | false => exact absurd (h1.2 hd) (by omega)
  · rw [decide_eq_false h]
    exact (h1.1 (by omega)).symm
/-! ### Which rulings count -/
theorem fin_map (kn : Int) (l : List Ru) : ∀ (m : Mb) (q : ByteArray), apartR l → (∀ r ∈ l, r.id ≠ q) → mgetB (l.foldl (finS kn) m) q = mgetB m q := by
  induction l with
  | nil => intro m q _ _; rfl
  | cons r l ih =>
    intro m q ha hq
    simp only [List.foldl_cons]
    rw [ih _ _ ha.2 (fun s hs => hq s (by simp [hs])), finS, mput_get, if_neg (hq r (by simp))]
theorem fin_get (kn : Int) (l : List Ru) : ∀ (m : Mb) (q : ByteArray), apartR l → mgetB (l.foldl (finS kn) m) q = if l.any (fun r => decide (r.id = q)) then finalR l q kn else mgetB m q := by
  induction l with
  | nil => intro m q _; rfl
  | cons r l ih =>
    intro m q ha
    simp only [List.foldl_cons, List.any_cons]
    by_cases e : r.id = q
    · subst e
      rw [fin_map kn l _ _ ha.2 (fun s hs => ha.1 s hs), finS, mput_get, if_pos rfl]
      have h1 : l.any (finP r.id kn) = false := by
        rw [List.any_eq_false]
        intro s hs
        have := ha.1 s hs
        simp [finP, this]
      have h2 : finalR (r :: l) r.id kn = (r.fin && decide (r.kn ≤ kn)) := by
        unfold finalR
        rw [List.any_cons, h1, Bool.or_false, finP]; simp
      rw [h2]; simp
    · have h2 : finalR (r :: l) q kn = finalR l q kn := by
        unfold finalR
        rw [List.any_cons]
        simp [finP, e]
      rw [ih _ _ ha.2, finS, mput_get, if_neg e, h2]
      simp [e]
theorem fin_eq (l : List Ru) (kn : Int) (q : ByteArray) (ha : apartR l) : mgetB (finM l kn) q = finalR l q kn := by
  unfold finM
  rw [fin_get kn l [] q ha]
  split
  · rfl
  · rename_i h
    have : finalR l q kn = false := by
      unfold finalR
      rw [List.any_eq_false]
      intro s hs
      simp only [Bool.not_eq_true, List.any_eq_false] at h
      have := h s hs
      simp only [finP]
      simp at this
      simp [this]
    rw [this]; rfl
/-- The counting, with the reference's list of what counts. -/
structure CntI (l : List Ru) (kn : Int) (s : List Ru) : Prop where
  out : (cntL (finM l kn) kn s).2.reverse = ((s.zip (ctl l kn s)).filter (·.2)).map (·.1)
  lif : ∀ q, mgetB (cntL (finM l kn) kn s).1 q = (s.zip (ctl l kn s)).any fun x => (decide (x.1.kd = 6) && decide (x.1.lf = q)) && x.2
  cnt : ∀ x ∈ s.zip (ctl l kn s), x.2 = true → (decide (x.1.kd = 6) && finalR l x.1.lf kn) = false
theorem cnt_all (l : List Ru) (kn : Int) (ha : apartR l) : ∀ s : List Ru, (∀ r ∈ s, r ∈ l) → CntI l kn s := by
  intro s
  induction s with
  | nil => intro _; exact ⟨rfl, fun q => rfl, fun x hx => by simp [ctl] at hx⟩
  | cons r s ih =>
    intro hs
    have hi := ih (fun x hx => hs x (by simp [hx]))
    have hr : r ∈ l := hs r (by simp)
    -- the test
    have hm := hi.lif r.id
    have hskip : skipC (finM l kn) kn (cntL (finM l kn) kn s).1 r = !(!(decide (kn < r.kn) || (decide (r.kd = 6) && finalR l r.lf kn)) && (r.fin || !((s.zip (ctl l kn s)).any fun x => (decide (x.1.kd = 6) && decide (x.1.lf = r.id)) && x.2))) := by
      unfold skipC
      rw [hm, fin_eq l kn _ ha]
      cases h1 : (decide (kn < r.kn) || (decide (r.kd = 6) && finalR l r.lf kn)) with
      | true => simp
      | false =>
        simp only [Bool.false_or, Bool.not_false, Bool.true_and, Bool.not_or, Bool.not_not]
        cases hf : r.fin with
        | false => simp
        | true =>
          simp only [Bool.not_true, Bool.false_and]
          rw [List.any_eq_false]
          intro x hx
          cases hx2 : x.2 with
          | false => simp
          | true =>
            have := hi.cnt x hx hx2
            intro hc
            simp only [Bool.and_true, Bool.and_eq_true, decide_eq_true_eq] at hc
            rw [hc.2] at this
            have hfin : finalR l r.id kn = true := by
              unfold finalR
              rw [List.any_eq_true]
              refine ⟨r, hr, ?_⟩
              simp only [Bool.or_eq_false_iff, decide_eq_false_iff_not] at h1
              have := h1.1
              simp only [finP, hf, decide_true, Bool.and_self, Bool.true_and, decide_eq_true_eq]
              omega
            rw [hfin] at this
            simp [hc.1] at this
    refine ⟨?_, fun q => ?_, fun x hx hx2 => ?_⟩
    · simp only [cntL, stepC, hskip, ctl, List.zip_cons_cons, List.filter_cons]
      cases hb : (!(decide (kn < r.kn) || (decide (r.kd = 6) && finalR l r.lf kn)) && (r.fin || !((s.zip (ctl l kn s)).any fun x => (decide (x.1.kd = 6) && decide (x.1.lf = r.id)) && x.2))) with
      | true => simp only [Bool.not_true, cond_false, if_true, List.reverse_append, List.reverse_cons, List.reverse_nil, List.nil_append, List.map_cons, hi.out]; rfl
      | false => simp only [Bool.not_false, cond_true, hi.out]; rfl
    · simp only [cntL, stepC, hskip, ctl, List.zip_cons_cons, List.any_cons]
      cases hb : (!(decide (kn < r.kn) || (decide (r.kd = 6) && finalR l r.lf kn)) && (r.fin || !((s.zip (ctl l kn s)).any fun x => (decide (x.1.kd = 6) && decide (x.1.lf = r.id)) && x.2))) with
      | true =>
        simp only [Bool.not_true, cond_false, Bool.and_true]
        by_cases k6 : r.kd = 6
        · simp only [k6, decide_true, cond_true, mput_get, Bool.true_and]
          by_cases e : r.lf = q
          · simp [e]
          · simp only [e, if_false, decide_false, Bool.false_or]; exact hi.lif q
        · simp only [k6, decide_false, cond_false, Bool.false_and, Bool.false_or]; exact hi.lif q
      | false =>
        simp only [Bool.not_false, cond_true, Bool.and_false, Bool.false_or]; exact hi.lif q
    · simp only [ctl, List.zip_cons_cons, List.mem_cons] at hx
      rcases hx with rfl | hx
      · simp only [Bool.and_eq_true, Bool.not_eq_true', Bool.or_eq_false_iff] at hx2
        exact hx2.1.2
      · exact hi.cnt x hx hx2
theorem ctl_drop (l0 : List Ru) (kn : Int) (l : List Ru) : ∀ i, ctl l0 kn (l.drop i) = (ctl l0 kn l).drop i := by
  induction l with
  | nil => intro i; simp [ctl]
  | cons r l ih =>
    intro i
    cases i with
    | zero => rfl
    | succ i => simp only [List.drop_succ_cons, ctl, ih]
theorem filt {α : Type} (d : α) : ∀ (l : List α) (bs : List Bool), bs.length = l.length → (((List.range l.length).filter fun i => bs.getD i false).map fun i => l.getD i d) = ((l.zip bs).filter (·.2)).map (·.1) := by
  intro l
  induction l with
  | nil => intro bs _; rfl
  | cons x l ih =>
    intro bs hb
    cases bs with
    | nil => simp at hb
    | cons b bs =>
      have hb' : bs.length = l.length := by simpa using hb
      have := ih bs hb'
      simp only [List.length_cons, List.range_succ_eq_map, List.filter_cons, List.getD_cons_zero, List.zip_cons_cons, List.filter_map, List.map_map]
      have e1 : ((fun i => (b :: bs).getD i false) ∘ Nat.succ) = fun i => bs.getD i false := by funext i; simp
      rw [e1]
      cases b with
      | true =>
        simp only [if_true, List.map_cons, List.getD_cons_zero, List.map_map]
        rw [← this]; rfl
      | false =>
        simp only [if_false, Bool.false_eq_true, List.map_map]
        rw [← this]; rfl
theorem out_eq (l : List Ru) (kn : Int) (ha : apartR l) : (cntL (finM l kn) kn l).2.reverse = outB l kn l.length := by
  rw [(cnt_all l kn ha l (fun r h => h)).out, ← filt Ru.z l (ctl l kn l) (ctl_len l kn l)]
  unfold outB
  congr 1
  refine List.filter_congr fun i hi => ?_
  unfold ctR
  rw [ctl_drop]
  simp [List.headD_eq_head?_getD, List.head?_drop, List.getD_eq_getElem?_getD]
theorem count_eq (l : List Ru) (kn : Int) : countP l kn = countB l kn := by
  unfold countP countB
  rw [days1, valid_any, dup_eq]
  cases hd : dupR l with
  | true => rfl
  | false => rw [out_eq l kn ((dup_iff l).1 hd)]
/-! ### Equal lists -/
theorem sameF_refl : ∀ f : Fm, sameF f f = true := by
  refine Fm.ind fun f ih => ?_
  rw [sameF_eq]
  simp only [decide_true, Bool.and_self, Bool.true_and]
  have : ∀ ks : List Fm, (∀ k ∈ ks, sameF k k = true) → sameFs ks ks = true := by
    intro ks
    induction ks with
    | nil => intro _; rfl
    | cons k ks ihk =>
      intro h
      simp only [sameFs, List.getD_cons_zero, List.drop_succ_cons, List.drop_zero, h k (by simp), Bool.true_and]
      exact ihk fun x hx => h x (by simp [hx])
  exact this f.ks ih
theorem same2_refl {α : Type} {p : α → α → Bool} {d : α} (h : ∀ a, p a a = true) (l : List α) : same2 p d l l = true := by
  induction l with
  | nil => rfl
  | cons x l ih => simp only [same2, List.getD_cons_zero, List.drop_succ_cons, List.drop_zero, h, Bool.true_and, ih]
theorem all2_refl {α : Type} {p : α → α → Bool} {d : α} (h : ∀ a, p a a = true) (l : List α) : all2 p d l l = true := by
  simp [all2, same2_refl h]
theorem sameR_refl (r : Ru) : sameR r r = true := by simp [sameR, sameF_refl]
theorem sameS_refl (s : Sn) : sameS s s = true := by simp [sameS, sameF_refl]
/-! ### What is left of spans -/
theorem mx_self (a : Int) : mx a a = a := by simp [mx]
theorem nonE_eq (s : Sn) : nonE s = !emptyS s := by
  unfold nonE emptyS
  by_cases h : s.b = -1
  · simp [h]
  · by_cases h2 : s.a < s.b
    · have : ¬ s.b ≤ s.a := by omega
      simp [h, h2, this]
    · have : s.b ≤ s.a := by omega
      simp [h, h2, this]
theorem put_add (o : List Sn) (s : Sn) : putS o s = addS o s := by
  unfold putS addS; rw [nonE_eq]; cases emptyS s <;> rfl
theorem keepT_before (s : Sn) (n : Int) (h : n ≠ -1) : keepT s s.a n s.f = beforeS s n := by
  unfold keepT beforeS; rw [mx_self]; simp [h]
theorem keepL_self (s : Sn) : keepL s s.a s.f = s := by unfold keepL; rw [mx_self]
theorem keepL_from (s : Sn) (n : Int) : keepL s n s.f = fromS s n := rfl
theorem keepL_read (s : Sn) (r : Ru) : keepL s r.a (readP s r) = readS s r := by
  unfold keepL readS fromS
  rw [readP_eq]
  cases (decide (s.f.op = 1)) <;> rfl
theorem bad_days (r : Ru) : badD r = !daysP [r.a, r.b] := by
  rw [days_cons, days1, days1, badD]
  cases (decide (0 ≤ r.a) && decide (r.a ≤ 1000000)) <;> rfl
theorem step_eq (r : Ru) (o : List Sn) (s : Sn) : stepP r (bif !daysP [r.a, r.b] then 0 else r.kd) o s = stepA (bif badD r then Ru.z else r) o s := by
  rw [bad_days]
  cases hd : daysP [r.a, r.b] with
  | false =>
    simp only [Bool.not_false, cond_true]
    rw [stepA_z, stepP]
    simp only [put_add, keepL_self, emptyS]
    rfl
  | true =>
    rw [days_cons, days1, days1] at hd
    simp only [Bool.and_eq_true, decide_eq_true_eq] at hd
    simp only [Bool.not_true, cond_false]
    unfold stepP stepA
    rw [keepT_before s r.a (by omega), keepT_before s r.b (by omega), keepL_from, keepL_read, keepL_self]
    simp only [put_add]
    rw [emptyS]
    cases (!decide (s.b = -1)) && decide (s.b ≤ s.a) <;> cases decide (r.kd = 1) <;> rfl
theorem apply_eq (l : List Sn) (r : Ru) : applyP l r = applyB l r := by
  unfold applyP applyB
  have : stepP r (bif !daysP [r.a, r.b] then 0 else r.kd) = stepA (bif badD r then Ru.z else r) := by
    funext o s; exact step_eq r o s
  rw [this]
end Go.Proofs.Ythmimpiegnnmdaa
