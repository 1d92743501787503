/- Part M9 of the proof. -/
import Derived.Test.YtphmhelkojdlaaaDoorRows
import Derived.LaidMore
import Derived.Stop.Joined
import Derived.Test.YtphmhelkojdlaaaDoorCards
import Derived.Test.YtphmhelkojdlaaaDoorTie
import Derived.Test.YtphmhelkojdlaaaDoorM8
namespace Go.Proofs.YtphmhelkojdlaaaDoor
open Go.RowKit
set_option linter.unusedSimpArgs false
set_option linter.unusedVariables false
theorem head_trueR : headB = true := by kernel_rfl
theorem days1 (a : Int) : daysP [a] = (decide (0 ≤ a) && decide (a ≤ 1000000)) := by
 simp only [daysP, List.any_cons, List.any_nil, badDay, Bool.or_false]
 by_cases h1 : a < 0 <;> by_cases h2 : 1000000 < a <;> simp [h1, h2] <;> omega
theorem days_cons (a : Int) (l : List Int) : daysP (a :: l) = (daysP [a] && daysP l) := by
 simp [daysP]
/-! ### What is left of spans -/
theorem mx_self (a : Int) : mx a a = a := by simp [mx]
theorem nonE_eq (s : Sn) : nonE s = !emptyS s := by
 unfold nonE emptyS
 by_cases h : s.b = -1
 ·simp [h]
 ·by_cases h2 : s.a < s.b
  ·have : ¬ s.b ≤ s.a := by omega
   simp [h, h2, this]
  ·have : s.b ≤ s.a := by omega
   simp [h, h2, this]
theorem put_add (o : List Sn) (s : Sn) : putS o s = addS o s := by
 unfold putS addS; rw [nonE_eq]; cases emptyS s <;> rfl
theorem keepT_before (s : Sn) (n : Int) (h : n ≠ -1) : keepT s s.a n s.f = beforeS s n := by
 unfold keepT beforeS; rw [mx_self]; simp [h]
theorem keepL_self (s : Sn) : keepL s s.a s.f = s := by unfold keepL; rw [mx_self]
theorem keepL_from (s : Sn) (n : Int) : keepL s n s.f = fromS s n := rfl
theorem keepL_read (s : Sn) (r : Ru) : keepL s r.a (readP s r) = readS s r := by
 unfold keepL readS fromS
 rw [readP_eq]
 cases (decide (s.f.op = 1)) <;> rfl
theorem bad_days (r : Ru) : badD r = !daysP [r.a, r.b] := by
 rw [days_cons, days1, days1, badD]
 cases (decide (0 ≤ r.a) && decide (r.a ≤ 1000000)) <;> rfl
theorem step_eq (r : Ru) (o : List Sn) (s : Sn) : stepP r (bif !daysP [r.a, r.b] then 0 else r.kd) o s = stepAr (bif badD r then Ru.z else r) o s := by
 rw [bad_days]
 cases hd : daysP [r.a, r.b] with
 | false =>
  simp only [Bool.not_false, cond_true]
  rw [stepAr_z, stepP]
  simp only [put_add, keepL_self, emptyS]
  rfl
 | true =>
  rw [days_cons, days1, days1] at hd
  simp only [Bool.and_eq_true, decide_eq_true_eq] at hd
  simp only [Bool.not_true, cond_false]
  unfold stepP stepAr
  rw [keepT_before s r.a (by omega), keepT_before s r.b (by omega), keepL_from, keepL_read, keepL_self]
  simp only [put_add]
  rw [emptyS]
  cases (!decide (s.b = -1)) && decide (s.b ≤ s.a) <;> cases decide (r.kd = 1) <;> rfl
theorem apply_eq (l : List Sn) (r : Ru) : applyP l r = applyB l r := by
 unfold applyP applyB
 have : stepP r (bif !daysP [r.a, r.b] then 0 else r.kd) = stepAr (bif badD r then Ru.z else r) := by
  funext o s; exact step_eq r o s
 rw [this]
end Go.Proofs.YtphmhelkojdlaaaDoor
namespace Go.Proofs.YtphmhelkojdlaaaDoor
open Go.RowKit
set_option linter.unusedSimpArgs false
set_option linter.unusedVariables false
def addL (s : Sn) : List Sn := bif emptyS s then [] else [s]
/-- What is left of one span. -/
def leftS (r : Ru) (s : Sn) : List Sn :=
 bif decide (r.kd = 1) || emptyS s then []
 else bif decide (r.kd = 2) then addL (beforeS s r.a)
 else bif decide (r.kd = 3) then addL (beforeS s r.b)
 else bif decide (r.kd = 4) then addL (beforeS s r.a) ++ addL (fromS s r.b)
 else bif decide (r.kd = 5) then addL (beforeS s r.a) ++ addL (readS s r)
 else addL s
theorem addS_app (o : List Sn) (s : Sn) : addS o s = o ++ addL s := by
 unfold addS addL; cases emptyS s <;> simp
theorem stepAr_app (r : Ru) (o : List Sn) (s : Sn) : stepAr r o s = o ++ leftS r s := by
 unfold stepAr leftS
 simp only [addS_app]
 cases decide (r.kd = 1) || emptyS s <;> cases decide (r.kd = 2) <;> cases decide (r.kd = 3) <;> cases decide (r.kd = 4) <;> cases decide (r.kd = 5) <;> simp
theorem fold_flat (r : Ru) (l : List Sn) : ∀ o, l.foldl (stepAr r) o = o ++ l.flatMap (leftS r) := by
 induction l with
 | nil => intro o; simp
 | cons s l ih => intro o; simp only [List.foldl_cons, ih, stepAr_app, List.flatMap_cons, List.append_assoc]
/-- A ruling whose days are days. -/
def DayOk (r : Ru) : Prop := 0 ≤ r.a ∧ r.a ≤ 1000000 ∧ 0 ≤ r.b ∧ r.b ≤ 1000000
theorem apply_flat {l : List Sn} {r : Ru} (h : DayOk r) : applyP l r = l.flatMap (leftS r) := by
 rw [apply_eq, applyB]
 have : badD r = false := by
  unfold badD
  simp [h.1, h.2.1, h.2.2.1, h.2.2.2]
 rw [this, cond_false, fold_flat, List.nil_append]
theorem valid_days {r : Ru} (h : validP r = true) : DayOk r := by
 unfold validP at h
 rw [days_cons, days_cons r.b, days1, days1] at h
 unfold DayOk
 cases h1 : (decide (0 ≤ r.a) && decide (r.a ≤ 1000000)) <;> rw [h1] at h
 ·simp at h
 ·cases h2 : (decide (0 ≤ r.b) && decide (r.b ≤ 1000000)) <;> rw [h2] at h
  ·simp at h
  ·simp only [Bool.and_eq_true, decide_eq_true_eq] at h1 h2
   exact ⟨h1.1, h1.2, h2.1, h2.2⟩
theorem has_iff (s : Sn) (n : Int) : hasS s n = true ↔ s.a ≤ n ∧ (s.b = -1 ∨ n < s.b) := by simp [hasS]
theorem empty_iff (s : Sn) : emptyS s = true ↔ s.b ≠ -1 ∧ s.b ≤ s.a := by simp [emptyS]
theorem empty_has {s : Sn} (h : emptyS s = true) (n : Int) : hasS s n = false := by
 rw [empty_iff] at h
 cases hh : hasS s n with
 | false => rfl
 | true => rw [has_iff] at hh; omega
theorem bool_iff {a b : Bool} (h : a = true ↔ b = true) : a = b := by cases a <;> cases b <;> simp_all
theorem before_has {s : Sn} {m : Int} (h : 0 ≤ m) (n : Int) : hasS (beforeS s m) n = (hasS s n && decide (n < m)) := by
 apply bool_iff
 rw [Bool.and_eq_true, has_iff, has_iff, decide_eq_true_eq]
 unfold beforeS
 by_cases hb : s.b = -1
 ·simp [hb]; omega
 ·by_cases h2 : m < s.b
  ·simp [hb, h2]; omega
  ·simp [hb, h2]; omega
theorem from_has (s : Sn) (m n : Int) : hasS (fromS s m) n = (hasS s n && decide (m ≤ n)) := by
 apply bool_iff
 rw [Bool.and_eq_true, has_iff, has_iff, decide_eq_true_eq]
 unfold fromS mx
 by_cases h : m > s.a
 ·simp [h]; omega
 ·simp [h]; omega
theorem read_has (s : Sn) (r : Ru) (n : Int) : hasS (readS s r) n = hasS (fromS s r.a) n := by
 unfold readS hasS; cases decide (s.f.op = 1) <;> rfl
theorem lt_le (a b : Int) : decide (a < b) = !decide (b ≤ a) := by
 by_cases h : a < b
 ·have : ¬ b ≤ a := by omega
  simp [h, this]
 ·have : b ≤ a := by omega
  simp [h, this]
end Go.Proofs.YtphmhelkojdlaaaDoor
namespace Go.Proofs.YtphmhelkojdlaaaDoor
open Go.RowKit
set_option linter.unusedSimpArgs false
set_option linter.unusedVariables false
theorem c36 : PureCall Tryd.prog 36 [] (.b true) := by
 have := c36a
 rw [head_trueR] at this
 exact this
def readF (f g : Fm) : Fm := bif decide (f.op = 1) then g else andF f g
theorem readS_f (s : Sn) (r : Ru) : (readS s r).f = readF s.f r.f := by
 unfold readS readF; cases decide (s.f.op = 1) <;> rfl
theorem before_f (s : Sn) (n : Int) : (beforeS s n).f = s.f := rfl
theorem on_addL (s : Sn) (l : List Sn) (n : Int) : onS (addL s ++ l) n = bif hasS s n then (s.f, true) else onS l n := by
 unfold addL
 cases h : emptyS s with
 | true => rw [empty_has h]; rfl
 | false => rfl
theorem on_left {r : Ru} (ha : 0 ≤ r.a) (hk : r.kd = 5) (s : Sn) (l : List Sn) (n : Int) : onS (leftS r s ++ l) n = bif hasS s n then (bif decide (n < r.a) then s.f else readF s.f r.f, true) else onS l n := by
 cases he : emptyS s with
 | true =>
  unfold leftS
  rw [he, Bool.or_true, cond_true, empty_has he]; rfl
 | false =>
  have h : leftS r s = addL (beforeS s r.a) ++ addL (readS s r) := by unfold leftS; rw [he, hk]; rfl
  rw [h, List.append_assoc, on_addL, on_addL, before_has ha, read_has, from_has, readS_f, before_f, lt_le]
  cases hasS s n <;> cases decide (r.a ≤ n) <;> rfl
theorem on_flat {r : Ru} (ha : 0 ≤ r.a) (hk : r.kd = 5) (l : List Sn) (n : Int) : onS (l.flatMap (leftS r)) n = ((bif (onS l n).2 then (bif decide (n < r.a) then (onS l n).1 else readF (onS l n).1 r.f) else Fm.z), (onS l n).2) := by
 induction l with
 | nil => rfl
 | cons s l ih =>
  rw [List.flatMap_cons, on_left ha hk, ih]
  simp only [onS]
  cases hasS s n <;> rfl
theorem read_Gd {f : Fm} {d : Dm} (hs : smallF f 250 = true) (h1 : ¬ 60 < (szF f).1) (h2 : ¬ 10 < (szF f).2) (hc : checkR f d [] = 0) : Gd d 60 10 f := by
 have hn := nF_le (of_decide_eq_true hs) (by decide) (by decide)
 have h3 := szF_ok f hn.1
 have hz : errF (oneR d [] false) f = 0 := by
  unfold checkR at hc
  cases hl : largeR f with
  | true => rw [hl] at hc; exact absurd (show (2 : Int) = 0 from hc) (by decide)
  | false => rw [hl] at hc; exact hc
 exact ⟨by omega, by omega, err_weak f hz⟩
theorem on_small {l : List Sn} {n : Int} (h : l.all okS = true) (ho : (onS l n).2 = true) : smallF (onS l n).1 250 = true := by
 induction l with
 | nil => cases ho
 | cons s l ih =>
  rw [List.all_cons, Bool.and_eq_true] at h
  simp only [onS] at ho ⊢
  cases hh : hasS s n with
  | true => exact h.1
  | false => rw [hh] at ho; exact ih h.2 ho
theorem few_small {r : Ru} (h : fewR [r] 1 = true) : smallF r.f 250 = true := by
 unfold fewR okR at h
 simp only [List.all_cons, List.all_nil, Bool.and_true, Bool.and_eq_true, Bool.not_eq_true', Bool.or_eq_false_iff, Bool.not_eq_false'] at h
 exact h.2.1.1.1
theorem short_all {l : List Sn} {n : Int} (h : shortS l n = true) : l.all okS = true := by
 unfold shortS at h
 rw [Bool.and_eq_true] at h
 exact h.2
theorem hold_nofit {f : Fm} {d : Dm} {c : List Int} {l : List ByteArray} (h : fitsD d c = false) : holdP f d c l = false := by
 unfold holdP
 rw [h, Bool.and_false, Bool.false_and]
theorem hold_read {f g : Fm} {d : Dm} {c : List Int} {l : List ByteArray} (hf : Gd d 60 10 f) (hg : Gd d 60 10 g) : holdP (readF f g) d c l = (holdP f d c l && holdP g d c l) := by
 cases hc : fitsD d c with
 | false => rw [hold_nofit hc, hold_nofit hc, Bool.false_and]
 | true =>
  unfold readF
  by_cases h1 : f.op = 1
  ·rw [decide_eq_true h1, hf.hold (by decide) (by decide) hc, valF_eq, decide_eq_true h1]
   simp
  ·rw [decide_eq_false h1, cond_false]
   unfold andF
   have h2 := hf.two hg (.inl rfl) (by decide) (by decide) (by decide) (by decide) (o := 6)
   rw [h2.hold (by decide) (by decide) hc, hf.hold (by decide) (by decide) hc, hg.hold (by decide) (by decide) hc, val_and]
theorem reads_has {l : List Sn} {r : Ru} {day : Int} (hv : validP r = true) (hk : r.kd = 5) : (onS (applyP l r) day).2 = (onS l day).2 := by
 rw [apply_flat (valid_days hv), on_flat (valid_days hv).1 hk]
theorem reads_hold {l : List Sn} {r : Ru} {d : Dm} {c : List Int} {day : Int} (hv : validP r = true) (hk : r.kd = 5) (ho : (onS l day).2 = true) (hf : Gd d 60 10 (onS l day).1) (hg : Gd d 60 10 r.f) : holdP (onS (applyP l r) day).1 d c [] = (holdP (onS l day).1 d c [] && (decide (day < r.a) || holdP r.f d c [])) := by
 rw [apply_flat (valid_days hv), on_flat (valid_days hv).1 hk, ho]
 simp only [cond_true]
 cases decide (day < r.a) with
 | true => simp
 | false =>
  rw [cond_false, hold_read hf hg]
  rfl
end Go.Proofs.YtphmhelkojdlaaaDoor
namespace Go.Proofs.YtphmhelkojdlaaaDoor
open Go.RowKit
set_option maxRecDepth 10000
set_option linter.unusedSimpArgs false
set_option linter.unusedVariables false
noncomputable abbrev b10_1 (r : Ru) : Id × AO := ([0], .row [.tv (.str r.id), .tv (.str r.tg), .i 5, .i r.a, .i r.b, .i r.f.op, .tv (.str r.f.nm), .i r.f.cm, .i r.f.n, .tv (.sli 5 (r.f.ks.map encF)), .i r.kn, .b r.fin, .tv (.str ⟨#[]⟩)] false)
noncomputable abbrev b10_2 (l : (List Sn)) (r : Ru) (day : Int) : Id × AO := ([96], .row ((celF ((onS (applyP l (Ru.mk r.id r.tg 5 r.a r.b r.f r.kn r.fin ⟨#[]⟩)) day).1)).map .tv) false)
noncomputable abbrev b10_3 (l : (List Sn)) (day : Int) : Id × AO := ([35], .row ((celF ((onS l day).1)).map .tv) false)
noncomputable abbrev b10_4 (l : (List Sn)) (r : Ru) (day : Int) (d : Dm) : Hp := [(b10_2 l r day), (b10_3 l day), ([1], .row ((celD d).map .tv) false), (b10_1 r)]
noncomputable abbrev b10_5 (d : Dm) (r : Ru) : Hp := [([1], .row ((celD d).map .tv) false), ([0], .row ((celR r).map .tv) false)]
noncomputable abbrev b10_6 (l : (List Sn)) (day : Int) (d : Dm) (r : Ru) : Hp := [(b10_3 l day), ([1], .row ((celD d).map .tv) false), (b10_1 r)]
theorem l10 (l : (List Sn)) (r : Ru) (d : Dm) (c : (List Int)) (day : Int)  : PureCall Tryd.prog 10 [.tv (.sli 7 (l.map celS)), agR r, agD d, .tv (.sli 1 (c.map encI)), .i day] (.b true) := by
 refine walk0 (fn := Tryd.f10) [.tmp 10] Tryd.func10 rfl (by kernel_rfl) rfl (by kernel_rfl) (by kernel_rfl) ?_
 change AT _ _ _ ⟨[(0, .tv (.sli 7 (l.map celS))), (1, agR r), (2, agD d), (3, .tv (.sli 1 (c.map encI))), (4, .i day)], [], [], 0⟩
 refine at_len 0 rfl (fun hlen => ?_)
 refine at_agD 2 rfl (fun hlen2 => ?_)
 refine at_B [0, 3, 4, 6, 7] [] [] [(1000000, .any), (0, .tv (.sli 7 (l.map celS))), (3, .tv (.sli 1 (c.map encI))), (4, .i day), (6, .ptr [0] 0), (7, .ptr [1] 0)] (b10_5 d r) 3 (by kernel_rfl) ?_ ?_
 ·exact trivial
 refine at_B [0, 3, 4, 6, 7, 11] [.ret (.b true)] [PureCall Tryd.prog 36 [] (.b true)] [(1000000, .any), (0, .tv (.sli 7 (l.map celS))), (3, .tv (.sli 1 (c.map encI))), (4, .i day), (6, .ptr [0] 0), (7, .ptr [1] 0), (11, .b true)] (b10_5 d r) 5 (by kernel_rfl) ?_ ?_
 ·exact ⟨(c36), trivial⟩
 refine at_seq ?_
 refine at_B [0, 3, 4, 6, 7, 11, 41] [.std, .ret (.b (shortS l 20)), .std, .std, .std, .eq (.tv (.sli 13 (([r] : List _).map celR))), .ret (.b (fewR ([r]) 1)), .std, .std, .std, .std, .std, .std, .std, .std, .std, .std, .ret (.b (orderedB l))] [PureCall Tryd.prog 37 [.tv (.sli 7 (l.map celS)), .i 20] (.b (shortS l 20)), ((!(shortS l 20)) = false) → (.tv (.sli 13 [(celR r)]) : AV) = .tv (.sli 13 (([r] : List _).map celR)), ((!(shortS l 20)) = false) → PureCall Tryd.prog 38 [.tv (.sli 13 (([r] : List _).map celR)), .i 1] (.b (fewR ([r]) 1)), ((((!(shortS l 20)) || (!(fewR ([r]) 1))) || (decide ((70 : Int) < (((d.fs.map celC).length : Nat) : Int)))) = false) → PureCall Tryd.prog 39 [.tv (.sli 7 (l.map celS))] (.b (orderedB l))] [(1000000, .any), (0, .tv (.sli 7 (l.map celS))), (3, .tv (.sli 1 (c.map encI))), (4, .i day), (6, .ptr [0] 0), (7, .ptr [1] 0), (11, .b true), (41, .b ((((!(shortS l 20)) || (!(fewR ([r]) 1))) || (decide ((70 : Int) < (((d.fs.map celC).length : Nat) : Int)))) || (!(orderedB l))))] (b10_5 d r) 25 (by kernel_rfl) ?_ ?_
 ·exact ⟨(c37 l 20), fun hg0 => rfl, fun hg0 => (c38 [r] 1), fun hg0 => (c39 l), trivial⟩
 refine at_cond (b := ((((!(shortS l 20)) || (!(fewR ([r]) 1))) || (decide ((70 : Int) < (((d.fs.map celC).length : Nat) : Int)))) || (!(orderedB l)))) rfl rfl (fun hc41 => ?_) (fun hc41 => ?_)
 ·have q41 := hc41
  (try simp only [brs] at q41)
  refine at_B [10] [] [] [(1000000, .any), (10, .b true)] (b10_5 d r) 27 (by kernel_rfl) ?_ ?_
  ·exact trivial
  refine at_ret ?_
  refine fin0 (.inr rfl) (.b true) (b10_5 d r) (.b true) (H2 := (b10_5 d r)) (by kernel_rfl) (by kernel_rfl) ?_
  refine Le.of_eq ?_
  first | rfl | (simp only [*])
 ·have q41 := hc41
  (try simp only [brs] at q41)
  have hsl := short_len q41.1.1.1
  refine at_skip ?_
  change AT _ _ _ _
  refine at_B [0, 3, 4, 6, 7, 11] [] [] [(1000000, .any), (0, .tv (.sli 7 (l.map celS))), (3, .tv (.sli 1 (c.map encI))), (4, .i day), (6, .ptr [0] 0), (7, .ptr [1] 0), (11, .b true)] [([1], .row ((celD d).map .tv) false), ([0], .row [.tv (.str r.id), .tv (.str r.tg), .i 5, .i r.a, .i r.b, .i r.f.op, .tv (.str r.f.nm), .i r.f.cm, .i r.f.n, .tv (.sli 5 (r.f.ks.map encF)), .i r.kn, .b r.fin, .tv (.str r.lf)] false)] 27 (by kernel_rfl) ?_ ?_
  ·exact trivial
  refine at_B [0, 3, 4, 6, 7, 11] [] [] [(1000000, .any), (0, .tv (.sli 7 (l.map celS))), (3, .tv (.sli 1 (c.map encI))), (4, .i day), (6, .ptr [0] 0), (7, .ptr [1] 0), (11, .b true)] [([1], .row ((celD d).map .tv) false), (b10_1 r)] 29 (by kernel_rfl) ?_ ?_
  ·exact trivial
  refine at_B [0, 3, 4, 6, 7, 11, 12, 13] [.std, .std, .ret (.tup [agF ((onS l day).1), .b ((onS l day).2)])] [PureCall Tryd.prog 40 [.tv (.sli 7 (l.map celS)), .i day] (.tup [agF ((onS l day).1), .b ((onS l day).2)])] [(1000000, .any), (0, .tv (.sli 7 (l.map celS))), (3, .tv (.sli 1 (c.map encI))), (4, .i day), (6, .ptr [0] 0), (7, .ptr [1] 0), (11, .b true), (12, .ptr [35] 0), (13, .b ((onS l day).2))] (b10_6 l day d r) 38 (by kernel_rfl) ?_ ?_
  ·exact ⟨(c40 l day), trivial⟩
  refine at_B [0, 3, 4, 6, 7, 11, 12, 13, 14, 15] [.std, .std, .ret (.tup [.i ((szF r.f).1), .i ((szF r.f).2)])] [PureCall Tryd.prog 14 [agF r.f] (.tup [.i ((szF r.f).1), .i ((szF r.f).2)])] [(1000000, .any), (0, .tv (.sli 7 (l.map celS))), (3, .tv (.sli 1 (c.map encI))), (4, .i day), (6, .ptr [0] 0), (7, .ptr [1] 0), (11, .b true), (12, .ptr [35] 0), (13, .b ((onS l day).2)), (14, .i ((szF r.f).1)), (15, .i ((szF r.f).2))] (b10_6 l day d r) 46 (by kernel_rfl) ?_ ?_
  ·exact ⟨(c14 r.f), trivial⟩
  refine at_B [0, 3, 4, 6, 7, 11, 12, 13, 14, 15, 16, 17] [.std, .ret (.tup [.i ((szF ((onS l day).1)).1), .i ((szF ((onS l day).1)).2)])] [PureCall Tryd.prog 14 [agF ((onS l day).1)] (.tup [.i ((szF ((onS l day).1)).1), .i ((szF ((onS l day).1)).2)])] [(1000000, .any), (0, .tv (.sli 7 (l.map celS))), (3, .tv (.sli 1 (c.map encI))), (4, .i day), (6, .ptr [0] 0), (7, .ptr [1] 0), (11, .b true), (12, .ptr [35] 0), (13, .b ((onS l day).2)), (14, .i ((szF r.f).1)), (15, .i ((szF r.f).2)), (16, .i ((szF ((onS l day).1)).1)), (17, .i ((szF ((onS l day).1)).2))] (b10_6 l day d r) 53 (by kernel_rfl) ?_ ?_
  ·exact ⟨(c14 ((onS l day).1)), trivial⟩
  refine at_seq ?_
  refine at_B [0, 3, 4, 6, 7, 11, 12, 13, 96] [.std, .ret (.b (validP (Ru.mk r.id r.tg 5 r.a r.b r.f r.kn r.fin ⟨#[]⟩))), .std, .std, .std, .std, .std, .std, .std, .std, .std, .std, .std, .std, .std, .std, .std, .std, .std, .std, .std, .std, .std, .ret (.i (checkR r.f d ([]))), .std, .std, .std, .std, .std, .std, .std, .ret (.i (checkR ((onS l day).1) d ([])))] [PureCall Tryd.prog 41 [.agg [.tv (.str r.id), .tv (.str r.tg), .i 5, .i r.a, .i r.b, .i r.f.op, .tv (.str r.f.nm), .i r.f.cm, .i r.f.n, .tv (.sli 5 (r.f.ks.map encF)), .i r.kn, .b r.fin, .tv (.str ⟨#[]⟩)]] (.b (validP (Ru.mk r.id r.tg 5 r.a r.b r.f r.kn r.fin ⟨#[]⟩))), ((((((!(validP (Ru.mk r.id r.tg 5 r.a r.b r.f r.kn r.fin ⟨#[]⟩))) || (decide ((60 : Int) < (szF r.f).1))) || (decide ((60 : Int) < (szF ((onS l day).1)).1))) || (decide ((10 : Int) < (szF r.f).2))) || (decide ((10 : Int) < (szF ((onS l day).1)).2))) = false) → PureCall Tryd.prog 16 [agF r.f, agD d, .tv .nils] (.i (checkR r.f d ([]))), ((onS l day).2 = true) → (((((((!(validP (Ru.mk r.id r.tg 5 r.a r.b r.f r.kn r.fin ⟨#[]⟩))) || (decide ((60 : Int) < (szF r.f).1))) || (decide ((60 : Int) < (szF ((onS l day).1)).1))) || (decide ((10 : Int) < (szF r.f).2))) || (decide ((10 : Int) < (szF ((onS l day).1)).2))) || (!decide ((checkR r.f d ([])) = (0 : Int)))) = false) → PureCall Tryd.prog 16 [agF ((onS l day).1), agD d, .tv .nils] (.i (checkR ((onS l day).1) d ([])))] [(1000000, .any), (0, .tv (.sli 7 (l.map celS))), (3, .tv (.sli 1 (c.map encI))), (4, .i day), (6, .ptr [0] 0), (7, .ptr [1] 0), (11, .b true), (12, .ptr [35] 0), (13, .b ((onS l day).2)), (96, .b (((((((!(validP (Ru.mk r.id r.tg 5 r.a r.b r.f r.kn r.fin ⟨#[]⟩))) || (decide ((60 : Int) < (szF r.f).1))) || (decide ((60 : Int) < (szF ((onS l day).1)).1))) || (decide ((10 : Int) < (szF r.f).2))) || (decide ((10 : Int) < (szF ((onS l day).1)).2))) || (!decide ((checkR r.f d ([])) = (0 : Int)))) || ((onS l day).2 && (!decide ((checkR ((onS l day).1) d ([])) = (0 : Int))))))] (b10_6 l day d r) 88 (by kernel_rfl) ?_ ?_
  ·exact ⟨(c41 (Ru.mk r.id r.tg 5 r.a r.b r.f r.kn r.fin ⟨#[]⟩)), fun hg0 => ((c16 r.f d [])).arg (.cons (Le.refl _) (.cons (Le.refl _) (.cons (Le.nils 1) .nil))), fun hg0 hg1 => ((c16 ((onS l day).1) d [])).arg (.cons (Le.refl _) (.cons (Le.refl _) (.cons (Le.nils 1) .nil))), trivial⟩
  refine at_cond (b := (((((((!(validP (Ru.mk r.id r.tg 5 r.a r.b r.f r.kn r.fin ⟨#[]⟩))) || (decide ((60 : Int) < (szF r.f).1))) || (decide ((60 : Int) < (szF ((onS l day).1)).1))) || (decide ((10 : Int) < (szF r.f).2))) || (decide ((10 : Int) < (szF ((onS l day).1)).2))) || (!decide ((checkR r.f d ([])) = (0 : Int)))) || ((onS l day).2 && (!decide ((checkR ((onS l day).1) d ([])) = (0 : Int)))))) rfl rfl (fun hc96 => ?_) (fun hc96 => ?_)
  ·have q96 := hc96
   (try simp only [brs] at q96)
   refine at_B [10] [] [] [(1000000, .any), (10, .b true)] (b10_6 l day d r) 90 (by kernel_rfl) ?_ ?_
   ·exact trivial
   refine at_ret ?_
   refine fin0 (.inr rfl) (.b true) (b10_6 l day d r) (.b true) (H2 := (b10_6 l day d r)) (by kernel_rfl) (by kernel_rfl) ?_
   refine Le.of_eq ?_
   first | rfl | (simp only [*])
  ·have q96 := hc96
   (try simp only [brs] at q96)
   have hhas := reads_has (l := l) (r := (Ru.mk r.id r.tg 5 r.a r.b r.f r.kn r.fin ⟨#[]⟩)) (day := day) q96.1.1.1.1.1.1 rfl
   refine at_skip ?_
   change AT _ _ _ _
   refine at_B [3, 4, 6, 7, 11, 12, 13, 18, 19] [.std, .std, .ret (.tv (.sli 7 ((applyP l (Ru.mk r.id r.tg 5 r.a r.b r.f r.kn r.fin ⟨#[]⟩)).map celS))), .std, .ret (.tup [agF ((onS (applyP l (Ru.mk r.id r.tg 5 r.a r.b r.f r.kn r.fin ⟨#[]⟩)) day).1), .b ((onS (applyP l (Ru.mk r.id r.tg 5 r.a r.b r.f r.kn r.fin ⟨#[]⟩)) day).2)])] [PureCall Tryd.prog 42 [.tv (.sli 7 (l.map celS)), .agg [.tv (.str r.id), .tv (.str r.tg), .i 5, .i r.a, .i r.b, .i r.f.op, .tv (.str r.f.nm), .i r.f.cm, .i r.f.n, .tv (.sli 5 (r.f.ks.map encF)), .i r.kn, .b r.fin, .tv (.str ⟨#[]⟩)]] (.tv (.sli 7 ((applyP l (Ru.mk r.id r.tg 5 r.a r.b r.f r.kn r.fin ⟨#[]⟩)).map celS))), PureCall Tryd.prog 40 [.tv (.sli 7 ((applyP l (Ru.mk r.id r.tg 5 r.a r.b r.f r.kn r.fin ⟨#[]⟩)).map celS)), .i day] (.tup [agF ((onS (applyP l (Ru.mk r.id r.tg 5 r.a r.b r.f r.kn r.fin ⟨#[]⟩)) day).1), .b ((onS (applyP l (Ru.mk r.id r.tg 5 r.a r.b r.f r.kn r.fin ⟨#[]⟩)) day).2)])] [(1000000, .any), (3, .tv (.sli 1 (c.map encI))), (4, .i day), (6, .ptr [0] 0), (7, .ptr [1] 0), (11, .b true), (12, .ptr [35] 0), (13, .b ((onS l day).2)), (18, .ptr [96] 0), (19, .b ((onS (applyP l (Ru.mk r.id r.tg 5 r.a r.b r.f r.kn r.fin ⟨#[]⟩)) day).2))] (b10_4 l r day d) 99 (by kernel_rfl) ?_ ?_
   ·exact ⟨(c42 l (Ru.mk r.id r.tg 5 r.a r.b r.f r.kn r.fin ⟨#[]⟩) (by (try simp only [brs, lns] at *); omega)), (c40 (applyP l (Ru.mk r.id r.tg 5 r.a r.b r.f r.kn r.fin ⟨#[]⟩)) day), trivial⟩
   refine at_seq ?_
   refine at_B [3, 4, 6, 7, 11, 12, 13, 18, 19, 112] [] [] [(1000000, .any), (3, .tv (.sli 1 (c.map encI))), (4, .i day), (6, .ptr [0] 0), (7, .ptr [1] 0), (11, .b true), (12, .ptr [35] 0), (13, .b ((onS l day).2)), (18, .ptr [96] 0), (19, .b ((onS (applyP l (Ru.mk r.id r.tg 5 r.a r.b r.f r.kn r.fin ⟨#[]⟩)) day).2)), (112, .b ((!((onS l day).2 == (onS (applyP l (Ru.mk r.id r.tg 5 r.a r.b r.f r.kn r.fin ⟨#[]⟩)) day).2)) || (!(onS l day).2)))] (b10_4 l r day d) 106 (by kernel_rfl) ?_ ?_
   ·exact trivial
   refine at_cond (b := ((!((onS l day).2 == (onS (applyP l (Ru.mk r.id r.tg 5 r.a r.b r.f r.kn r.fin ⟨#[]⟩)) day).2)) || (!(onS l day).2))) rfl rfl (fun hc112 => ?_) (fun hc112 => ?_)
   ·have q112 := hc112
    (try simp only [brs] at q112)
    refine at_B [10] [] [] [(1000000, .any), (10, .b ((onS l day).2 == (onS (applyP l (Ru.mk r.id r.tg 5 r.a r.b r.f r.kn r.fin ⟨#[]⟩)) day).2))] (b10_4 l r day d) 113 (by kernel_rfl) ?_ ?_
    ·exact trivial
    refine at_ret ?_
    refine fin0 (.inr rfl) (.b ((onS l day).2 == (onS (applyP l (Ru.mk r.id r.tg 5 r.a r.b r.f r.kn r.fin ⟨#[]⟩)) day).2)) (b10_4 l r day d) (.b ((onS l day).2 == (onS (applyP l (Ru.mk r.id r.tg 5 r.a r.b r.f r.kn r.fin ⟨#[]⟩)) day).2)) (H2 := (b10_4 l r day d)) (by kernel_rfl) (by kernel_rfl) ?_
    refine Le.of_eq ?_
    rw [hhas]; simp
   ·have q112 := hc112
    (try simp only [brs] at q112)
    refine at_skip ?_
    change AT _ _ _ _
    refine at_B [3, 7, 11, 18, 20] [.std, .std, .std, .ret (.b (holdP ((onS l day).1) d c ([]))), .std, .std, .std, .std, .std, .std, .std, .std, .std, .std, .ret (.b (holdP r.f d c ([])))] [PureCall Tryd.prog 26 [agF ((onS l day).1), agD d, .tv (.sli 1 (c.map encI)), .tv .nils] (.b (holdP ((onS l day).1) d c ([]))), ((decide (day < r.a)) = false) → ((holdP ((onS l day).1) d c ([])) = true) → PureCall Tryd.prog 26 [agF r.f, agD d, .tv (.sli 1 (c.map encI)), .tv .nils] (.b (holdP r.f d c ([])))] [(1000000, .any), (3, .tv (.sli 1 (c.map encI))), (7, .ptr [1] 0), (11, .b true), (18, .ptr [96] 0), (20, .b ((holdP ((onS l day).1) d c ([])) && ((decide (day < r.a)) || (holdP r.f d c ([])))))] (b10_4 l r day d) 124 (by kernel_rfl) ?_ ?_
    ·exact ⟨((c26 ((onS l day).1) d c [])).arg (.cons (Le.refl _) (.cons (Le.refl _) (.cons (Le.refl _) (.cons (Le.nils 1) .nil)))), fun hg0 hg1 => ((c26 r.f d c [])).arg (.cons (Le.refl _) (.cons (Le.refl _) (.cons (Le.refl _) (.cons (Le.nils 1) .nil)))), trivial⟩
    refine at_B [10] [.std, .std, .std, .std, .std, .ret (.b (holdP ((onS (applyP l (Ru.mk r.id r.tg 5 r.a r.b r.f r.kn r.fin ⟨#[]⟩)) day).1) d c ([])))] [(true = true) → PureCall Tryd.prog 26 [agF ((onS (applyP l (Ru.mk r.id r.tg 5 r.a r.b r.f r.kn r.fin ⟨#[]⟩)) day).1), agD d, .tv (.sli 1 (c.map encI)), .tv .nils] (.b (holdP ((onS (applyP l (Ru.mk r.id r.tg 5 r.a r.b r.f r.kn r.fin ⟨#[]⟩)) day).1) d c ([])))] [(1000000, .any), (10, .b ((holdP ((onS (applyP l (Ru.mk r.id r.tg 5 r.a r.b r.f r.kn r.fin ⟨#[]⟩)) day).1) d c ([])) == ((holdP ((onS l day).1) d c ([])) && ((decide (day < r.a)) || (holdP r.f d c ([]))))))] (b10_4 l r day d) 134 (by kernel_rfl) ?_ ?_
    ·exact ⟨fun hg0 => ((c26 ((onS (applyP l (Ru.mk r.id r.tg 5 r.a r.b r.f r.kn r.fin ⟨#[]⟩)) day).1) d c [])).arg (.cons (Le.refl _) (.cons (Le.refl _) (.cons (Le.refl _) (.cons (Le.nils 1) .nil)))), trivial⟩
    refine at_ret ?_
    refine fin0 (.inr rfl) (.b ((holdP ((onS (applyP l (Ru.mk r.id r.tg 5 r.a r.b r.f r.kn r.fin ⟨#[]⟩)) day).1) d c ([])) == ((holdP ((onS l day).1) d c ([])) && ((decide (day < r.a)) || (holdP r.f d c ([])))))) (b10_4 l r day d) (.b ((holdP ((onS (applyP l (Ru.mk r.id r.tg 5 r.a r.b r.f r.kn r.fin ⟨#[]⟩)) day).1) d c ([])) == ((holdP ((onS l day).1) d c ([])) && ((decide (day < r.a)) || (holdP r.f d c ([])))))) (H2 := (b10_4 l r day d)) (by kernel_rfl) (by kernel_rfl) ?_
    refine Le.of_eq ?_
    have hGg := read_Gd (few_small q41.1.1.2) q96.1.1.1.1.1.2 q96.1.1.1.2 q96.1.2
    have hGf := read_Gd (on_small (short_all q41.1.1.1) q112.2) q96.1.1.1.1.2 q96.1.1.2 (q96.2.resolve_left (by rw [q112.2]; decide))
    rw [reads_hold (r := (Ru.mk r.id r.tg 5 r.a r.b r.f r.kn r.fin ⟨#[]⟩)) (c := c) q96.1.1.1.1.1.1 rfl q112.2 hGf hGg]
    simp
end Go.Proofs.YtphmhelkojdlaaaDoor
namespace Go.Proofs.YtphmhelkojdlaaaDoor
open Go.RowKit Go.ChangeShapes Go.WideShapes Go.ChangeAt
set_option linter.unusedSimpArgs false
set_option linter.unusedVariables false
section
variable {H : Type} {enc : TypeId × Value → H} {W : World}
theorem rd_3 (fuel : Nat) : Rd enc Tryd.prog W fuel 3 (fun n : Int => [.int .i64 n]) := rd_int Tryd.underlying3
theorem rd_9 (fuel : Nat) : Rd enc Tryd.prog W fuel 9 (fun s : ByteArray => [.str s]) := rd_str Tryd.underlying9
theorem rde_24 : ∀ (fuel : Nat), Rd enc Tryd.prog W fuel 24 encF := by
 intro fuel
 induction fuel using Nat.strongRecOn with
 | _ fuel ih =>
 cases fuel with
 | zero => exact rd_zero
 | succ fuel =>
  intro cs x h
  obtain ⟨hl, hf⟩ := rd_fields Tryd.underlying24 h
  have rk : Rd enc Tryd.prog W fuel 22 (fun l : List Fm => [.sli 5 (l.map encF)]) := by
   cases fuel with
   | zero => exact rd_zero
   | succ fuel => exact rd_slice Tryd.underlying22 (by kernel_rfl) encF_len (ih fuel (by omega))
  obtain ⟨a0, r0⟩ := rd_field hf 0 3 0 1 rfl (by kernel_rfl) (rd_3 fuel)
  obtain ⟨a1, r1⟩ := rd_field hf 1 9 1 1 rfl (by kernel_rfl) (rd_9 fuel)
  obtain ⟨a2, r2⟩ := rd_field hf 2 3 2 1 rfl (by kernel_rfl) (rd_3 fuel)
  obtain ⟨a3, r3⟩ := rd_field hf 3 3 3 1 rfl (by kernel_rfl) (rd_3 fuel)
  obtain ⟨a4, r4⟩ := rd_field hf 4 22 4 1 rfl (by kernel_rfl) (rk)
  refine ⟨(Fm.mk a0 a1 a2 a3 a4), ?_⟩
  rw [encF_eq]
  exact CR.app (off := 0) (n := 1) r0 rfl (CR.app (off := 1) (n := 1) r1 rfl (CR.app (off := 2) (n := 1) r2 rfl (CR.app (off := 3) (n := 1) r3 rfl (CR.app (off := 4) (n := 1) r4 rfl (CR.fin (n := 5) (hl.trans (by kernel_rfl)))))))
theorem rd_24 (fuel : Nat) : Rd enc Tryd.prog W fuel 24 celF := rd_ext (rde_24 fuel) (fun a => ⟨a, (encF_eq a).symm⟩)
theorem rd_52 (fuel : Nat) : Rd enc Tryd.prog W fuel 52 celC := by
 cases fuel with
 | zero => exact rd_zero
 | succ fuel =>
  intro cs x h
  obtain ⟨hl, hf⟩ := rd_fields Tryd.underlying52 h
  obtain ⟨a0, r0⟩ := rd_field hf 0 9 0 1 rfl (by kernel_rfl) (rd_9 fuel)
  obtain ⟨a1, r1⟩ := rd_field hf 1 3 1 1 rfl (by kernel_rfl) (rd_3 fuel)
  obtain ⟨a2, r2⟩ := rd_field hf 2 3 2 1 rfl (by kernel_rfl) (rd_3 fuel)
  obtain ⟨a3, r3⟩ := rd_field hf 3 3 3 1 rfl (by kernel_rfl) (rd_3 fuel)
  refine ⟨(Fc.mk a0 a1 a2 a3), ?_⟩
  exact CR.app (off := 0) (n := 1) r0 rfl (CR.app (off := 1) (n := 1) r1 rfl (CR.app (off := 2) (n := 1) r2 rfl (CR.app (off := 3) (n := 1) r3 rfl (CR.fin (n := 4) (hl.trans (by kernel_rfl))))))
theorem rd_25 (fuel : Nat) : Rd enc Tryd.prog W fuel 25 (fun l : List Fc => [.sli 4 (l.map celC)]) := by
 cases fuel with
 | zero => exact rd_zero
 | succ fuel => exact rd_slice Tryd.underlying25 (by kernel_rfl) (fun _ => rfl) (rd_52 fuel)
theorem rd_27 (fuel : Nat) : Rd enc Tryd.prog W fuel 27 celD := by
 cases fuel with
 | zero => exact rd_zero
 | succ fuel =>
  intro cs x h
  obtain ⟨hl, hf⟩ := rd_fields Tryd.underlying27 h
  obtain ⟨a0, r0⟩ := rd_field hf 0 25 0 1 rfl (by kernel_rfl) (rd_25 fuel)
  refine ⟨(Dm.mk a0), ?_⟩
  exact CR.app (off := 0) (n := 1) r0 rfl (CR.fin (n := 1) (hl.trans (by kernel_rfl)))
theorem rd_29 (fuel : Nat) : Rd enc Tryd.prog W fuel 29 (fun l : List Int => [.sli 1 (l.map encI)]) := by
 cases fuel with
 | zero => exact rd_zero
 | succ fuel => exact rd_slice Tryd.underlying29 (by kernel_rfl) (fun _ => rfl) (rd_3 fuel)
theorem rd_90 (fuel : Nat) : Rd enc Tryd.prog W fuel 90 celS := by
 cases fuel with
 | zero => exact rd_zero
 | succ fuel =>
  intro cs x h
  obtain ⟨hl, hf⟩ := rd_fields Tryd.underlying90 h
  obtain ⟨a0, r0⟩ := rd_field hf 0 3 0 1 rfl (by kernel_rfl) (rd_3 fuel)
  obtain ⟨a1, r1⟩ := rd_field hf 1 3 1 1 rfl (by kernel_rfl) (rd_3 fuel)
  obtain ⟨a2, r2⟩ := rd_field hf 2 24 2 5 rfl (by kernel_rfl) (rd_24 fuel)
  refine ⟨(Sn.mk a0 a1 a2), ?_⟩
  exact CR.app (off := 0) (n := 1) r0 rfl (CR.app (off := 1) (n := 1) r1 rfl (CR.app (off := 2) (n := 5) r2 rfl (CR.fin (n := 7) (hl.trans (by kernel_rfl)))))
theorem rd_61 (fuel : Nat) : Rd enc Tryd.prog W fuel 61 (fun l : List Sn => [.sli 7 (l.map celS)]) := by
 cases fuel with
 | zero => exact rd_zero
 | succ fuel => exact rd_slice Tryd.underlying61 (by kernel_rfl) (fun _ => rfl) (rd_90 fuel)
theorem rd_4 (fuel : Nat) : Rd enc Tryd.prog W fuel 4 (fun b : Bool => [.bool b]) := rd_bool Tryd.underlying4
theorem rd_63 (fuel : Nat) : Rd enc Tryd.prog W fuel 63 celR := by
 cases fuel with
 | zero => exact rd_zero
 | succ fuel =>
  intro cs x h
  obtain ⟨hl, hf⟩ := rd_fields Tryd.underlying63 h
  obtain ⟨a0, r0⟩ := rd_field hf 0 9 0 1 rfl (by kernel_rfl) (rd_9 fuel)
  obtain ⟨a1, r1⟩ := rd_field hf 1 9 1 1 rfl (by kernel_rfl) (rd_9 fuel)
  obtain ⟨a2, r2⟩ := rd_field hf 2 3 2 1 rfl (by kernel_rfl) (rd_3 fuel)
  obtain ⟨a3, r3⟩ := rd_field hf 3 3 3 1 rfl (by kernel_rfl) (rd_3 fuel)
  obtain ⟨a4, r4⟩ := rd_field hf 4 3 4 1 rfl (by kernel_rfl) (rd_3 fuel)
  obtain ⟨a5, r5⟩ := rd_field hf 5 24 5 5 rfl (by kernel_rfl) (rd_24 fuel)
  obtain ⟨a6, r6⟩ := rd_field hf 6 3 10 1 rfl (by kernel_rfl) (rd_3 fuel)
  obtain ⟨a7, r7⟩ := rd_field hf 7 4 11 1 rfl (by kernel_rfl) (rd_4 fuel)
  obtain ⟨a8, r8⟩ := rd_field hf 8 9 12 1 rfl (by kernel_rfl) (rd_9 fuel)
  refine ⟨(Ru.mk a0 a1 a2 a3 a4 a5 a6 a7 a8), ?_⟩
  exact CR.app (off := 0) (n := 1) r0 rfl (CR.app (off := 1) (n := 1) r1 rfl (CR.app (off := 2) (n := 1) r2 rfl (CR.app (off := 3) (n := 1) r3 rfl (CR.app (off := 4) (n := 1) r4 rfl (CR.app (off := 5) (n := 5) r5 rfl (CR.app (off := 10) (n := 1) r6 rfl (CR.app (off := 11) (n := 1) r7 rfl (CR.app (off := 12) (n := 1) r8 rfl (CR.fin (n := 13) (hl.trans (by kernel_rfl)))))))))))
end
theorem own : ownKnob Tryd.prog.godebug = none := by kernel_rfl
theorem laidOut : laidOutB Tryd.prog = true := by kernel_rfl
abbrev laidL {H : Type} : List (String × DataW H) := [("math/bits.deBruijn32tab", Rows.laid_math_bits_deBruijn32tab), ("math/bits.deBruijn64tab", Rows.laid_math_bits_deBruijn64tab), ("internal/strconv.uint64pow10", Rows.laid_internal_strconv_uint64pow10), ("strconv.ErrRange", Rows.laid_strconv_ErrRange), ("strconv.ErrSyntax", Rows.laid_strconv_ErrSyntax)]
/-- The door's own heap meets the condition. -/
theorem door_met (os : Os) (args : Array Value) : laidMetH Tryd.prog laidL ((World.doorLaid Tryd.prog 4000 os).forCall (fun _ _ => 0) ⟨#[], args, []⟩).memory :=
 laidMetH_of_parts3 (fuel := 8) (laidMet_of_run' 8 (by kernel_rfl) (by kernel_rfl)) (by kernel_rfl) (by kernel_rfl)
end Go.Proofs.YtphmhelkojdlaaaDoor
namespace Go.Proofs.YtphmhelkojdlaaaDoor
open Go.RowKit Go.ChangeShapes Go.WideShapes Go.ChangeAt
set_option linter.unusedSimpArgs false
set_option linter.unusedVariables false
theorem law10_pure (l : List Sn) (r : Ru) (d : Dm) (c : List Int) (day : Int) : PureCall Tryd.prog 10 [.tv (.sli 7 (l.map celS)), .agg ((celR r).map .tv), .agg ((celD d).map .tv), .tv (.sli 1 (c.map encI)), .i day] (.b true) := l10 l r d c day
set_option maxRecDepth 100000 in
theorem lifted10 (os : Os) (started : os.Started) (H : Type) (enc : TypeId × Value → H) :
  ReturnsInHanded {} Tryd.checked os 10 .any (fun w args => (Rows.rulingReadsSpec.pre enc Tryd.prog Tryd.f10 [] false w args ∧ laidMetH Tryd.prog laidL w) ∧ sizedMet enc Tryd.prog Tryd.f10 (OpenSpec.ofChange Rows.rulingReadsSpec) false w args) (Rows.rulingReadsSpec.post enc Tryd.prog Tryd.f10 false true false false) := by
 refine returnsInHanded_of_change_and (C := Tryd.checked) (X := fun w _ => laidMetH Tryd.prog laidL w) (fun _ _ _ hh h => h.of_heap hh) own started (by kernel_rfl) Tryd.func10
  (ChangeSpec.witness_shaped (enc := enc) (C := Tryd.checked) (os := os) (X := fun w _ => laidMetH Tryd.prog laidL w) false (World.doorLaid Tryd.prog 4000 os) #[.slice none 0 0, .agg #[.string ⟨#[]⟩, .string ⟨#[]⟩, .int .i64 0, .int .i64 0, .int .i64 0, .int .i64 0, .string ⟨#[]⟩, .int .i64 0, .int .i64 0, .slice none 0 0, .int .i64 0, .bool false, .string ⟨#[]⟩], .agg #[.slice none 0 0], .slice none 0 0, .int .i64 0] 8 rfl (World.shaped_of_RefB (by kernel_rfl) (by kernel_rfl)) (by kernel_rfl) (by kernel_rfl) (by kernel_rfl) (door_met os _)) ?_
 intro W base args ds gs before hval0 hW _ _ hL _
 have hval : ∀ (j : Nat) t v, Tryd.f10.params[j]? = some t → args[j]? = some v → Value.okWide Tryd.prog W .any base t v := hval0
 have hW' := hW
 obtain ⟨p, q, hA0, hV, rfl, _, _⟩ := hW
 have hA : DataW.TrodAll enc Tryd.prog W 0 (fun _ => true) true Tryd.f10.params.toList args.toList ds p := hA0
 rw [Tryd.params10] at hA hval
 obtain ⟨v0, vs0, d0, ds0, p0, q0, hargs, rfl, rfl, h0, g0⟩ := trodAll_cons hA
 obtain ⟨v1, vs1, d1, ds1, p1, q1, rfl, rfl, rfl, h1, g1⟩ := trodAll_cons g0
 obtain ⟨v2, vs2, d2, ds2, p2, q2, rfl, rfl, rfl, h2, g2⟩ := trodAll_cons g1
 obtain ⟨v3, vs3, d3, ds3, p3, q3, rfl, rfl, rfl, h3, g3⟩ := trodAll_cons g2
 obtain ⟨v4, vs4, d4, ds4, p4, q4, rfl, rfl, rfl, h4, g4⟩ := trodAll_cons g3
 obtain ⟨rfl, rfl, rfl⟩ := trodAll_nil g4
 obtain rfl : args = #[v0, v1, v2, v3, v4] := by cases args; simp_all
 obtain ⟨rfl, rfl⟩ := trodVars_none hV
 obtain ⟨z0, len0, cap0, rfl⟩ := okWide_slice Tryd.underlying61 (hval 0 61 v0 rfl rfl)
 obtain ⟨x0, y0⟩ := arg_one (ι := fun _ => none) rfl rd_61 h0
 obtain ⟨us1, rfl, _⟩ := okWide_struct Tryd.underlying63 (hval 1 63 v1 rfl rfl)
 obtain ⟨x1, y1⟩ := arg_agg (ι := fun _ => none) rd_63 h1
 obtain ⟨us2, rfl, _⟩ := okWide_struct Tryd.underlying27 (hval 2 27 v2 rfl rfl)
 obtain ⟨x2, y2⟩ := arg_agg (ι := fun _ => none) rd_27 h2
 obtain ⟨z3, len3, cap3, rfl⟩ := okWide_slice Tryd.underlying29 (hval 3 29 v3 rfl rfl)
 obtain ⟨x3, y3⟩ := arg_one (ι := fun _ => none) rfl rd_29 h3
 obtain ⟨z4, rfl⟩ := okWide_int Tryd.underlying3 (hval 4 3 v4 rfl rfl)
 obtain ⟨x4, y4⟩ := arg_one (ι := fun _ => none) rfl rd_3 h4
 clear hA0 hval0
 simp only [List.append_nil] at hW'
 have hlt : ∀ x ∈ p0 ++ p1 ++ p2 ++ p3 ++ p4, x.block < W.heap.size := fun x hx => by simpa using hW'.lt x (by simpa using hx)
 refine (law_calls (P := Tryd.prog) (b := true) (law10_pure x0 x1 x2 x3 x4) (VRs.cons y0 (VRs.cons y1 (VRs.cons y2 (VRs.cons y3 (VRs.cons y4 (VRs.nil _ _))))))).mono fun e W' ⟨he, hb⟩ => ?_
 subst he
 refine ⟨_, rfl, _, _, _, [], _, [], hW', trodAll_mk1 (shut_bool Tryd.underlying4 true), (trodAll_cons_mk (Below.trod laidOut (by kernel_rfl) (of_decide_eq_true (by kernel_rfl)) h0 hb (fun x hx => hlt x (by simp [hx]))) (trodAll_cons_mk (Below.trod laidOut (by kernel_rfl) (of_decide_eq_true (by kernel_rfl)) h1 hb (fun x hx => hlt x (by simp [hx]))) (trodAll_cons_mk (Below.trod laidOut (by kernel_rfl) (of_decide_eq_true (by kernel_rfl)) h2 hb (fun x hx => hlt x (by simp [hx]))) (trodAll_cons_mk (Below.trod laidOut (by kernel_rfl) (of_decide_eq_true (by kernel_rfl)) h3 hb (fun x hx => hlt x (by simp [hx]))) (trodAll_cons_mk (Below.trod laidOut (by kernel_rfl) (of_decide_eq_true (by kernel_rfl)) h4 hb (fun x hx => hlt x (by simp [hx]))) trodAll_mk0))))), rfl, hb.frame _, fun h => by cases h⟩
theorem proved10 : Rows.RulingReadsSaid :=
 OpenClaim.holds_of_wide 10 Tryd.f10 rfl rfl rfl rfl rfl rfl rfl ⟨rfl, rfl, rfl, rfl, rfl⟩ rfl rfl rfl rfl rfl (by kernel_rfl) Tryd.func10 (by kernel_rfl)
  (of_decide_eq_true (by kernel_rfl)) (by unfold Func.isWrapper; first | (rw [if_pos (by decide +kernel)]; kernel_rfl) | (rw [if_neg (by decide +kernel)]; exact ⟨rfl, rfl⟩))
  (fun os started H enc _ => lifted10 os started H enc)
theorem card10 : Rows.RulingReadsCardSaid :=
 Claim7.holds_tied_plain_at .later [] _ true (true, "4a36700912013bb2f555b7a01611f8226529d3d0a19222fa014a5d6bd73064b1") true
  proved10 (fun _ h => by cases h) (by kernel_rfl) (fun _ h => by cases h) rulingReads_row_tie rfl ⟨rfl, rfl⟩ (by kernel_rfl) rfl
  (fun f fn hf hfn => by
   obtain rfl : f = 10 := Option.some.inj ((show Tryd.prog.funcNamed "pandect/pandectlaw26.RulingReads" = some 10 by kernel_rfl).symm.trans hf) |>.symm
   obtain rfl : fn = Tryd.f10 := (Option.some.inj (Tryd.func10.symm.trans hfn)).symm
   exact ⟨by kernel_rfl, fun j t ht => by
    rw [Tryd.params10] at ht
    have hm : t ∈ [61, 63, 27, 29, 3] := by simpa using Array.mem_of_getElem? ht
    have hall : ([61, 63, 27, 29, 3].all fun u => !Tryd.prog.wantsStandIn u) = true := by kernel_rfl
    exact (show Tryd.prog.wantsStandIn t = false by simpa using List.all_eq_true.1 hall t hm)⟩)
  (by kernel_rfl)
#print axioms card10
end Go.Proofs.YtphmhelkojdlaaaDoor
