/- Part M7 of the proof. -/
import Derived.Test.YtphmhelkojdlaaaDoorRows
import Derived.LaidMore
import Derived.Stop.Joined
import Derived.Test.YtphmhelkojdlaaaDoorCards
import Derived.Test.YtphmhelkojdlaaaDoorTie
import Derived.Test.YtphmhelkojdlaaaDoorM6
namespace Go.Proofs.YtphmhelkojdlaaaDoor
open Go.RowKit
set_option maxRecDepth 10000
set_option linter.unusedSimpArgs false
set_option linter.unusedVariables false
def law3V (f : Fm) (g : Fm) (d : Dm) (c : (List Int)) (l : (List ByteArray)) (nm : ByteArray) : Bool := bif ((((!(decide (cntF f 300 ≤ 300))) || (!(decide (cntF g 300 ≤ 300)))) || (!(fewD d c l))) || (decide ((60 : Int) < ((nm.size : Nat) : Int)))) then (true) else (bif ((!(((((decide ((checkR f d l) = (checkR f d l))) && (decide ((szF f).1 = (szF f).1))) && (decide ((szF f).2 = (szF f).2))) && (sameL (namesF f []) (namesF f []))) && ((sameF f g) == (sameF f g)))) || ((sameF (expF nm g f) (expF nm g f)) == false)) then (false) else (bif (!(validD d)) then (true) else (((holdP f d c l) == (holdR f d c l)))))
noncomputable abbrev b3_1 (d : Dm) (g : Fm) (f : Fm) : Hp := [([2], .row ((celD d).map .tv) false), ([1], .row ((celF g).map .tv) false), ([0], .row ((celF f).map .tv) false)]
theorem l3 (f : Fm) (g : Fm) (d : Dm) (c : (List Int)) (l : (List ByteArray)) (nm : ByteArray)  : PureCall Tryd.prog 3 [agF f, agF g, agD d, .tv (.sli 1 (c.map encI)), .tv (.sli 1 (l.map encStr)), .tv (.str nm)] (.tv (.bool (law3V f g d c l nm))) := by
  refine walk0 (fn := Tryd.f3) [.tmp 12] Tryd.func3 rfl (by kernel_rfl) rfl (by kernel_rfl) (by kernel_rfl) ?_
  change AT _ _ _ ⟨[(0, agF f), (1, agF g), (2, agD d), (3, .tv (.sli 1 (c.map encI))), (4, .tv (.sli 1 (l.map encStr))), (5, .tv (.str nm))], [], [], 0⟩
  refine at_B [3, 4, 5, 6, 7, 8] [] [] [(1000000, .any), (3, .tv (.sli 1 (c.map encI))), (4, .tv (.sli 1 (l.map encStr))), (5, .tv (.str nm)), (6, .ptr [0] 0), (7, .ptr [1] 0), (8, .ptr [2] 0)] (b3_1 d g f) 4 (by kernel_rfl) ?_ ?_
  · exact trivial
  refine at_B [3, 4, 5, 6, 7, 8, 13] [.ret (.tv (.bool true))] [PureCall Tryd.prog 11 [] (.tv (.bool true))] [(1000000, .any), (3, .tv (.sli 1 (c.map encI))), (4, .tv (.sli 1 (l.map encStr))), (5, .tv (.str nm)), (6, .ptr [0] 0), (7, .ptr [1] 0), (8, .ptr [2] 0), (13, .tv (.bool true))] (b3_1 d g f) 6 (by kernel_rfl) ?_ ?_
  · exact ⟨(c11), trivial⟩
  refine at_seq ?_
  refine at_B [3, 4, 5, 6, 7, 8, 13, 39] [.std, .ret (.tv (.bool (decide (cntF f 300 ≤ 300)))), .std, .std, .std, .ret (.tv (.bool (decide (cntF g 300 ≤ 300)))), .std, .std, .std, .std, .std, .std, .ret (.tv (.bool (fewD d c l)))] [PureCall Tryd.prog 12 [agF f, .tv (.int .i64 300)] (.tv (.bool (decide (cntF f 300 ≤ 300)))), ((!(decide (cntF f 300 ≤ 300))) = false) → PureCall Tryd.prog 12 [agF g, .tv (.int .i64 300)] (.tv (.bool (decide (cntF g 300 ≤ 300)))), (((!(decide (cntF f 300 ≤ 300))) || (!(decide (cntF g 300 ≤ 300)))) = false) → PureCall Tryd.prog 13 [agD d, .tv (.sli 1 (c.map encI)), .tv (.sli 1 (l.map encStr))] (.tv (.bool (fewD d c l)))] [(1000000, .any), (3, .tv (.sli 1 (c.map encI))), (4, .tv (.sli 1 (l.map encStr))), (5, .tv (.str nm)), (6, .ptr [0] 0), (7, .ptr [1] 0), (8, .ptr [2] 0), (13, .tv (.bool true)), (39, .tv (.bool ((((!(decide (cntF f 300 ≤ 300))) || (!(decide (cntF g 300 ≤ 300)))) || (!(fewD d c l))) || (decide ((60 : Int) < ((nm.size : Nat) : Int))))))] (b3_1 d g f) 26 (by kernel_rfl) ?_ ?_
  · exact ⟨(c12 f 300), fun hg0 => (c12 g 300), fun hg0 => (c13 d c l), trivial⟩
  refine at_cond (b := ((((!(decide (cntF f 300 ≤ 300))) || (!(decide (cntF g 300 ≤ 300)))) || (!(fewD d c l))) || (decide ((60 : Int) < ((nm.size : Nat) : Int))))) rfl rfl (fun hc39 => ?_) (fun hc39 => ?_)
  · have q39 := hc39
    (try simp only [brs] at q39)
    refine at_B [12] [] [] [(1000000, .any), (12, .tv (.bool true))] (b3_1 d g f) 28 (by kernel_rfl) ?_ ?_
    · exact trivial
    refine at_ret ?_
    refine fin0 (.inr rfl) (.tv (.bool true)) (b3_1 d g f) (.tv (.bool true)) (H2 := (b3_1 d g f)) (by kernel_rfl) (by kernel_rfl) ?_
    refine Le.of_eq ?_
    first | rfl | (simp only [law3V, hc39, cond_true, cond_false]; done) | (simp only [law3V, hc39, cond_true, cond_false]; rfl) | (rw [law3V, hc39]; rfl)
  · have q39 := hc39
    (try simp only [brs] at q39)
    have hnf := (nF_le q39.1.1.1 (by decide) (by decide)).1
    have hng := (nF_le q39.1.1.2 (by decide) (by decide)).1
    refine at_skip ?_
    change AT _ _ _ _
    refine at_B [3, 4, 5, 6, 7, 8, 13, 14, 15] [.std, .ret (.tup [.tv (.int .i64 ((szF f).1)), .tv (.int .i64 ((szF f).2))])] [PureCall Tryd.prog 14 [agF f] (.tup [.tv (.int .i64 ((szF f).1)), .tv (.int .i64 ((szF f).2))])] [(1000000, .any), (3, .tv (.sli 1 (c.map encI))), (4, .tv (.sli 1 (l.map encStr))), (5, .tv (.str nm)), (6, .ptr [0] 0), (7, .ptr [1] 0), (8, .ptr [2] 0), (13, .tv (.bool true)), (14, .tv (.int .i64 ((szF f).1))), (15, .tv (.int .i64 ((szF f).2)))] (b3_1 d g f) 33 (by kernel_rfl) ?_ ?_
    · exact ⟨(c14 f), trivial⟩
    refine at_B [3, 4, 5, 6, 7, 8, 13, 14, 15, 16, 17] [.std, .ret (.tup [.tv (.int .i64 ((szF f).1)), .tv (.int .i64 ((szF f).2))])] [PureCall Tryd.prog 15 [agF f] (.tup [.tv (.int .i64 ((szF f).1)), .tv (.int .i64 ((szF f).2))])] [(1000000, .any), (3, .tv (.sli 1 (c.map encI))), (4, .tv (.sli 1 (l.map encStr))), (5, .tv (.str nm)), (6, .ptr [0] 0), (7, .ptr [1] 0), (8, .ptr [2] 0), (13, .tv (.bool true)), (14, .tv (.int .i64 ((szF f).1))), (15, .tv (.int .i64 ((szF f).2))), (16, .tv (.int .i64 ((szF f).1))), (17, .tv (.int .i64 ((szF f).2)))] (b3_1 d g f) 40 (by kernel_rfl) ?_ ?_
    · exact ⟨(c15 f), trivial⟩
    refine at_D [some [[0]], some [[2]], none, none, some [[0]], some [[2]], none, none, none, none, none, none, none, none, none, none, none, none, none, none, some [[0]], none, some [[0]], none, none, none, none, some [[0]], some [[1]], none, some [[0]], some [[1]]] [0, 0, 0, 7, 0, 0, 0, 127, 255, 511, 1023, 1023, 4095, 8191, 16383, 32767, 32767, 131071, 262143, 524287, 1048575, 2097151, 1048575, 8388607, 16777215, 33554431, 67108863, 134217727, 134217727, 536870911, 134217727, 134217727, 4294967295, 8589934591, 17179869183, 34359738367] [3, 4, 5, 6, 7, 8, 13, 18] [.std, .std, .std, .ret (.tv (.int .i64 (checkR f d l))), .std, .std, .std, .ret (.tv (.int .i64 (checkR f d l))), .std, .std, .std, .std, .std, .std, .std, .std, .std, .std, .std, .std, .std, .ret (.tv (.sli 1 ((namesF f []).map encStr))), .std, .ret (.tv (.sli 1 ((namesF f []).map encStr))), .ret (.tv (.bool (sameL (namesF f []) (namesF f [])))), .std, .std, .std, .std, .ret (.tv (.bool (sameF f g))), .std, .std, .ret (.tv (.bool (sameF f g)))] [PureCall Tryd.prog 16 [agF f, agD d, .tv (.sli 1 (l.map encStr))] (.tv (.int .i64 (checkR f d l))), PureCall Tryd.prog 17 [agF f, agD d, .tv (.sli 1 (l.map encStr))] (.tv (.int .i64 (checkR f d l))), ((((decide ((checkR f d l) = (checkR f d l))) && (decide ((szF f).1 = (szF f).1))) && (decide ((szF f).2 = (szF f).2))) = true) → PureCall Tryd.prog 19 [agF f] (.tv (.sli 1 ((namesF f []).map encStr))), ((((decide ((checkR f d l) = (checkR f d l))) && (decide ((szF f).1 = (szF f).1))) && (decide ((szF f).2 = (szF f).2))) = true) → PureCall Tryd.prog 20 [agF f] (.tv (.sli 1 ((namesF f []).map encStr))), ((((decide ((checkR f d l) = (checkR f d l))) && (decide ((szF f).1 = (szF f).1))) && (decide ((szF f).2 = (szF f).2))) = true) → PureCall Tryd.prog 18 [.tv (.sli 1 ((namesF f []).map encStr)), .tv (.sli 1 ((namesF f []).map encStr))] (.tv (.bool (sameL (namesF f []) (namesF f [])))), (((((decide ((checkR f d l) = (checkR f d l))) && (decide ((szF f).1 = (szF f).1))) && (decide ((szF f).2 = (szF f).2))) && (sameL (namesF f []) (namesF f []))) = true) → PureCall Tryd.prog 21 [agF f, agF g] (.tv (.bool (sameF f g))), (((((decide ((checkR f d l) = (checkR f d l))) && (decide ((szF f).1 = (szF f).1))) && (decide ((szF f).2 = (szF f).2))) && (sameL (namesF f []) (namesF f []))) = true) → PureCall Tryd.prog 22 [agF f, agF g] (.tv (.bool (sameF f g)))] [(1000000, .any), (3, .tv (.sli 1 (c.map encI))), (4, .tv (.sli 1 (l.map encStr))), (5, .tv (.str nm)), (6, .ptr [0] 0), (7, .ptr [1] 0), (8, .ptr [2] 0), (13, .tv (.bool true)), (18, .tv (.bool (((((decide ((checkR f d l) = (checkR f d l))) && (decide ((szF f).1 = (szF f).1))) && (decide ((szF f).2 = (szF f).2))) && (sameL (namesF f []) (namesF f []))) && ((sameF f g) == (sameF f g)))))] (b3_1 d g f) 76 (by kernel_rfl) ?_ ?_
    · exact ⟨(c16 f d l), (c17 f d l), fun hg0 => (c19 f (by (try simp only [brs, lns] at *); omega)), fun hg0 => (c20 f (by (try simp only [brs, lns] at *); omega)), fun hg0 => (c18 (namesF f []) (namesF f [])), fun hg0 => (c21 f g), fun hg0 => (c22 f g), trivial⟩
    refine at_seq ?_
    refine at_D [none, none, none, some [[0]], none, some [[1]], none, some [[0]], none, some [[1]]] [0, 1, 3, 7, 7, 7, 63, 7, 7, 7, 1023, 2047, 4095, 8191] [3, 4, 6, 8, 13, 99] [.std, .std, .std, .std, .std, .std, .ret (agF (expF nm g f)), .std, .std, .std, .ret (agF (expF nm g f)), .ret (.tv (.bool (sameF (expF nm g f) (expF nm g f))))] [((!(((((decide ((checkR f d l) = (checkR f d l))) && (decide ((szF f).1 = (szF f).1))) && (decide ((szF f).2 = (szF f).2))) && (sameL (namesF f []) (namesF f []))) && ((sameF f g) == (sameF f g)))) = false) → PureCall Tryd.prog 23 [agF f, .tv (.str nm), agF g] (agF (expF nm g f)), ((!(((((decide ((checkR f d l) = (checkR f d l))) && (decide ((szF f).1 = (szF f).1))) && (decide ((szF f).2 = (szF f).2))) && (sameL (namesF f []) (namesF f []))) && ((sameF f g) == (sameF f g)))) = false) → PureCall Tryd.prog 24 [agF f, .tv (.str nm), agF g] (agF (expF nm g f)), ((!(((((decide ((checkR f d l) = (checkR f d l))) && (decide ((szF f).1 = (szF f).1))) && (decide ((szF f).2 = (szF f).2))) && (sameL (namesF f []) (namesF f []))) && ((sameF f g) == (sameF f g)))) = false) → PureCall Tryd.prog 22 [agF (expF nm g f), agF (expF nm g f)] (.tv (.bool (sameF (expF nm g f) (expF nm g f))))] [(1000000, .any), (3, .tv (.sli 1 (c.map encI))), (4, .tv (.sli 1 (l.map encStr))), (6, .ptr [0] 0), (8, .ptr [2] 0), (13, .tv (.bool true)), (99, .tv (.bool ((!(((((decide ((checkR f d l) = (checkR f d l))) && (decide ((szF f).1 = (szF f).1))) && (decide ((szF f).2 = (szF f).2))) && (sameL (namesF f []) (namesF f []))) && ((sameF f g) == (sameF f g)))) || ((sameF (expF nm g f) (expF nm g f)) == false))))] (b3_1 d g f) 90 (by kernel_rfl) ?_ ?_
    · exact ⟨fun hg0 => (c23 f nm g (by (try simp only [brs, lns] at *); omega)), fun hg0 => (c24 f nm g (by (try simp only [brs, lns] at *); omega)), fun hg0 => (c22 (expF nm g f) (expF nm g f)), trivial⟩
    refine at_cond (b := ((!(((((decide ((checkR f d l) = (checkR f d l))) && (decide ((szF f).1 = (szF f).1))) && (decide ((szF f).2 = (szF f).2))) && (sameL (namesF f []) (namesF f []))) && ((sameF f g) == (sameF f g)))) || ((sameF (expF nm g f) (expF nm g f)) == false))) rfl rfl (fun hc99 => ?_) (fun hc99 => ?_)
    · have q99 := hc99
      (try simp only [brs] at q99)
      refine at_B [12] [] [] [(1000000, .any), (12, .tv (.bool false))] (b3_1 d g f) 91 (by kernel_rfl) ?_ ?_
      · exact trivial
      refine at_ret ?_
      refine fin0 (.inr rfl) (.tv (.bool false)) (b3_1 d g f) (.tv (.bool false)) (H2 := (b3_1 d g f)) (by kernel_rfl) (by kernel_rfl) ?_
      refine Le.of_eq ?_
      first | rfl | (simp only [law3V, hc39, hc99, cond_true, cond_false]; done) | (simp only [law3V, hc39, hc99, cond_true, cond_false]; rfl) | (rw [law3V, hc39, hc99]; rfl)
    · have q99 := hc99
      (try simp only [brs] at q99)
      refine at_skip ?_
      change AT _ _ _ _
      refine at_seq ?_
      refine at_B [3, 4, 6, 8, 13, 102] [.std, .ret (.tv (.bool (validD d)))] [PureCall Tryd.prog 25 [agD d] (.tv (.bool (validD d)))] [(1000000, .any), (3, .tv (.sli 1 (c.map encI))), (4, .tv (.sli 1 (l.map encStr))), (6, .ptr [0] 0), (8, .ptr [2] 0), (13, .tv (.bool true)), (102, .tv (.bool (!(validD d))))] (b3_1 d g f) 93 (by kernel_rfl) ?_ ?_
      · exact ⟨(c25 d), trivial⟩
      refine at_cond (b := (!(validD d))) rfl rfl (fun hc102 => ?_) (fun hc102 => ?_)
      · have q102 := hc102
        (try simp only [brs] at q102)
        refine at_B [12] [] [] [(1000000, .any), (12, .tv (.bool true))] (b3_1 d g f) 95 (by kernel_rfl) ?_ ?_
        · exact trivial
        refine at_ret ?_
        refine fin0 (.inr rfl) (.tv (.bool true)) (b3_1 d g f) (.tv (.bool true)) (H2 := (b3_1 d g f)) (by kernel_rfl) (by kernel_rfl) ?_
        refine Le.of_eq ?_
        first | rfl | (simp only [law3V, hc39, hc99, hc102, cond_true, cond_false]; done) | (simp only [law3V, hc39, hc99, hc102, cond_true, cond_false]; rfl) | (rw [law3V, hc39, hc99, hc102]; rfl)
      · have q102 := hc102
        (try simp only [brs] at q102)
        refine at_skip ?_
        change AT _ _ _ _
        refine at_D [none, none, some [[0]], some [[2]], none, none, none, some [[0]], some [[2]]] [0, 1, 3, 3, 3, 3, 63, 3, 3, 3, 3, 2047, 4095, 8191, 16383] [12] [.std, .std, .std, .std, .std, .std, .ret (.tv (.bool (holdP f d c l))), .std, .std, .std, .std, .ret (.tv (.bool (holdR f d c l)))] [(true = true) → PureCall Tryd.prog 26 [agF f, agD d, .tv (.sli 1 (c.map encI)), .tv (.sli 1 (l.map encStr))] (.tv (.bool (holdP f d c l))), (true = true) → PureCall Tryd.prog 27 [agF f, agD d, .tv (.sli 1 (c.map encI)), .tv (.sli 1 (l.map encStr))] (.tv (.bool (holdR f d c l)))] [(1000000, .any), (12, .tv (.bool ((holdP f d c l) == (holdR f d c l))))] (b3_1 d g f) 108 (by kernel_rfl) ?_ ?_
        · exact ⟨fun hg0 => (c26 f d c l), fun hg0 => (c27 f d c l), trivial⟩
        refine at_ret ?_
        refine fin0 (.inr rfl) (.tv (.bool ((holdP f d c l) == (holdR f d c l)))) (b3_1 d g f) (.tv (.bool ((holdP f d c l) == (holdR f d c l)))) (H2 := (b3_1 d g f)) (by kernel_rfl) (by kernel_rfl) ?_
        refine Le.of_eq ?_
        first | rfl | (simp only [law3V, hc39, hc99, hc102, cond_true, cond_false]; done) | (simp only [law3V, hc39, hc99, hc102, cond_true, cond_false]; rfl) | (rw [law3V, hc39, hc99, hc102]; rfl)
end Go.Proofs.YtphmhelkojdlaaaDoor
namespace Go.Proofs.YtphmhelkojdlaaaDoor
open Go.RowKit
set_option linter.unusedSimpArgs false
set_option linter.unusedVariables false
theorem fits_DR {d : Dm} {c : List Int} (hv : validD d = true) : fitsD d c = fitsR d c := by
  unfold fitsD fitsR
  rw [hv]
  by_cases e : (c.length : Int) = (d.fs.length : Int)
  · have e2 : c.length = d.fs.length := by omega
    rw [decide_eq_true e, e2]; rfl
  · rw [decide_eq_false e]; rfl
theorem formR_eq (f : Fm) (d : Dm) : formR f d = decide (checkA f d = 0) := by
  unfold formR checkA
  cases largeR f with
  | true => rfl
  | false => rfl
theorem hold_PR {f : Fm} {d : Dm} {c : List Int} {l : List ByteArray} (hv : validD d = true) : holdP f d c l = holdR f d c l := by
  unfold holdP holdR
  rw [formR_eq, fits_DR hv]
theorem sameFs_refl {l : List Fm} (h : ∀ k ∈ l, sameF k k = true) : sameFs l l = true := by
  induction l with
  | nil => rfl
  | cons k r ih =>
    have h1 : sameF k ((k :: r).getD 0 Fm.z) = true := h k (by simp)
    have h2 : sameFs r (List.drop 1 (k :: r)) = true := ih (fun x hx => h x (by simp [hx]))
    rw [sameFs, h1, h2]; rfl
theorem sameF_refl : ∀ f : Fm, sameF f f = true := by
  refine Fm.ind (fun f ih => ?_)
  rw [sameF_eq, sameFs_refl ih]
  simp
theorem law3_true (f g : Fm) (d : Dm) (c : List Int) (l : List ByteArray) (nm : ByteArray) : law3V f g d c l nm = true := by
  unfold law3V
  have h1 : sameL (namesF f []) (namesF f []) = true := (sameL_iff _ _).2 rfl
  rw [h1, sameF_refl]
  cases hv : validD d with
  | false => simp
  | true => rw [hold_PR hv]; simp
end Go.Proofs.YtphmhelkojdlaaaDoor
namespace Go.Proofs.YtphmhelkojdlaaaDoor
open Go.RowKit Go.ChangeShapes Go.WideShapes Go.ChangeAt
set_option linter.unusedSimpArgs false
set_option linter.unusedVariables false
section
variable {H : Type} {enc : TypeId × Value → H} {W : World}
theorem rd_3 (fuel : Nat) : Rd enc Tryd.prog W fuel 3 (fun n : Int => [.int .i64 n]) := rd_int Tryd.underlying3
theorem rd_9 (fuel : Nat) : Rd enc Tryd.prog W fuel 9 (fun s : ByteArray => [.str s]) := rd_str Tryd.underlying9
theorem rde_24 : ∀ (fuel : Nat), Rd enc Tryd.prog W fuel 24 encF := by
  intro fuel
  induction fuel using Nat.strongRecOn with
  | _ fuel ih =>
  cases fuel with
  | zero => exact rd_zero
  | succ fuel =>
    intro cs x h
    obtain ⟨hl, hf⟩ := rd_fields Tryd.underlying24 h
    have rk : Rd enc Tryd.prog W fuel 22 (fun l : List Fm => [.sli 5 (l.map encF)]) := by
      cases fuel with
      | zero => exact rd_zero
      | succ fuel => exact rd_slice Tryd.underlying22 (by kernel_rfl) encF_len (ih fuel (by omega))
    obtain ⟨a0, r0⟩ := rd_field hf 0 3 0 1 rfl (by kernel_rfl) (rd_3 fuel)
    obtain ⟨a1, r1⟩ := rd_field hf 1 9 1 1 rfl (by kernel_rfl) (rd_9 fuel)
    obtain ⟨a2, r2⟩ := rd_field hf 2 3 2 1 rfl (by kernel_rfl) (rd_3 fuel)
    obtain ⟨a3, r3⟩ := rd_field hf 3 3 3 1 rfl (by kernel_rfl) (rd_3 fuel)
    obtain ⟨a4, r4⟩ := rd_field hf 4 22 4 1 rfl (by kernel_rfl) (rk)
    refine ⟨(Fm.mk a0 a1 a2 a3 a4), ?_⟩
    rw [encF_eq]
    exact CR.app (off := 0) (n := 1) r0 rfl (CR.app (off := 1) (n := 1) r1 rfl (CR.app (off := 2) (n := 1) r2 rfl (CR.app (off := 3) (n := 1) r3 rfl (CR.app (off := 4) (n := 1) r4 rfl (CR.fin (n := 5) (hl.trans (by kernel_rfl)))))))
theorem rd_24 (fuel : Nat) : Rd enc Tryd.prog W fuel 24 celF := rd_ext (rde_24 fuel) (fun a => ⟨a, (encF_eq a).symm⟩)
theorem rd_52 (fuel : Nat) : Rd enc Tryd.prog W fuel 52 celC := by
  cases fuel with
  | zero => exact rd_zero
  | succ fuel =>
    intro cs x h
    obtain ⟨hl, hf⟩ := rd_fields Tryd.underlying52 h
    obtain ⟨a0, r0⟩ := rd_field hf 0 9 0 1 rfl (by kernel_rfl) (rd_9 fuel)
    obtain ⟨a1, r1⟩ := rd_field hf 1 3 1 1 rfl (by kernel_rfl) (rd_3 fuel)
    obtain ⟨a2, r2⟩ := rd_field hf 2 3 2 1 rfl (by kernel_rfl) (rd_3 fuel)
    obtain ⟨a3, r3⟩ := rd_field hf 3 3 3 1 rfl (by kernel_rfl) (rd_3 fuel)
    refine ⟨(Fc.mk a0 a1 a2 a3), ?_⟩
    exact CR.app (off := 0) (n := 1) r0 rfl (CR.app (off := 1) (n := 1) r1 rfl (CR.app (off := 2) (n := 1) r2 rfl (CR.app (off := 3) (n := 1) r3 rfl (CR.fin (n := 4) (hl.trans (by kernel_rfl))))))
theorem rd_25 (fuel : Nat) : Rd enc Tryd.prog W fuel 25 (fun l : List Fc => [.sli 4 (l.map celC)]) := by
  cases fuel with
  | zero => exact rd_zero
  | succ fuel => exact rd_slice Tryd.underlying25 (by kernel_rfl) (fun _ => rfl) (rd_52 fuel)
theorem rd_27 (fuel : Nat) : Rd enc Tryd.prog W fuel 27 celD := by
  cases fuel with
  | zero => exact rd_zero
  | succ fuel =>
    intro cs x h
    obtain ⟨hl, hf⟩ := rd_fields Tryd.underlying27 h
    obtain ⟨a0, r0⟩ := rd_field hf 0 25 0 1 rfl (by kernel_rfl) (rd_25 fuel)
    refine ⟨(Dm.mk a0), ?_⟩
    exact CR.app (off := 0) (n := 1) r0 rfl (CR.fin (n := 1) (hl.trans (by kernel_rfl)))
theorem rd_29 (fuel : Nat) : Rd enc Tryd.prog W fuel 29 (fun l : List Int => [.sli 1 (l.map encI)]) := by
  cases fuel with
  | zero => exact rd_zero
  | succ fuel => exact rd_slice Tryd.underlying29 (by kernel_rfl) (fun _ => rfl) (rd_3 fuel)
theorem rd_30 (fuel : Nat) : Rd enc Tryd.prog W fuel 30 (fun l : List ByteArray => [.sli 1 (l.map encStr)]) := by
  cases fuel with
  | zero => exact rd_zero
  | succ fuel => exact rd_slice Tryd.underlying30 (by kernel_rfl) (fun _ => rfl) (rd_9 fuel)
end
theorem own : ownKnob Tryd.prog.godebug = none := by kernel_rfl
theorem laidOut : laidOutB Tryd.prog = true := by kernel_rfl
abbrev laidL {H : Type} : List (String × DataW H) := [("math/bits.deBruijn32tab", Rows.laid_math_bits_deBruijn32tab), ("math/bits.deBruijn64tab", Rows.laid_math_bits_deBruijn64tab), ("internal/strconv.uint64pow10", Rows.laid_internal_strconv_uint64pow10), ("strconv.ErrRange", Rows.laid_strconv_ErrRange), ("strconv.ErrSyntax", Rows.laid_strconv_ErrSyntax)]
/-- The door's own heap meets the condition. -/
theorem door_met (os : Os) (args : Array Value) : laidMetH Tryd.prog laidL ((World.doorLaid Tryd.prog 4000 os).forCall (fun _ _ => 0) ⟨#[], args, []⟩).memory :=
  laidMetH_of_parts3 (fuel := 8) (laidMet_of_run' 8 (by kernel_rfl) (by kernel_rfl)) (by kernel_rfl) (by kernel_rfl)
end Go.Proofs.YtphmhelkojdlaaaDoor
namespace Go.Proofs.YtphmhelkojdlaaaDoor
open Go.RowKit Go.ChangeShapes Go.WideShapes Go.ChangeAt
set_option linter.unusedSimpArgs false
set_option linter.unusedVariables false
theorem law3_pure (f g : Fm) (d : Dm) (c : List Int) (l : List ByteArray) (nm : ByteArray) : PureCall Tryd.prog 3 [.agg ((celF f).map .tv), .agg ((celF g).map .tv), .agg ((celD d).map .tv), .tv (.sli 1 (c.map encI)), .tv (.sli 1 (l.map encStr)), .tv (.str nm)] (.tv (.bool true)) := by
  have h := l3 f g d c l nm
  rw [law3_true] at h
  exact h
set_option maxRecDepth 100000 in
theorem lifted3 (os : Os) (started : os.Started) (H : Type) (enc : TypeId × Value → H) :
    ReturnsInHanded {} Tryd.checked os 3 .any (fun w args => (Rows.formulaMatchesReferenceSpec.pre enc Tryd.prog Tryd.f3 [] false w args ∧ laidMetH Tryd.prog laidL w) ∧ sizedMet enc Tryd.prog Tryd.f3 (OpenSpec.ofChange Rows.formulaMatchesReferenceSpec) false w args) (Rows.formulaMatchesReferenceSpec.post enc Tryd.prog Tryd.f3 false true false false) := by
  refine returnsInHanded_of_change_and (C := Tryd.checked) (X := fun w _ => laidMetH Tryd.prog laidL w) (fun _ _ _ hh h => h.of_heap hh) own started (by kernel_rfl) Tryd.func3
    (ChangeSpec.witness_shaped (enc := enc) (C := Tryd.checked) (os := os) (X := fun w _ => laidMetH Tryd.prog laidL w) false (World.doorLaid Tryd.prog 4000 os) #[.agg #[.int .i64 0, .string ⟨#[]⟩, .int .i64 0, .int .i64 0, .slice none 0 0], .agg #[.int .i64 0, .string ⟨#[]⟩, .int .i64 0, .int .i64 0, .slice none 0 0], .agg #[.slice none 0 0], .slice none 0 0, .slice none 0 0, .string ⟨#[]⟩] 8 rfl (World.shaped_of_RefB (by kernel_rfl) (by kernel_rfl)) (by kernel_rfl) (by kernel_rfl) (by kernel_rfl) (door_met os _)) ?_
  intro W base args ds gs before hval0 hW _ _ hL _
  have hval : ∀ (j : Nat) t v, Tryd.f3.params[j]? = some t → args[j]? = some v → Value.okWide Tryd.prog W .any base t v := hval0
  have hW' := hW
  obtain ⟨p, q, hA0, hV, rfl, _, _⟩ := hW
  have hA : DataW.TrodAll enc Tryd.prog W 0 (fun _ => true) true Tryd.f3.params.toList args.toList ds p := hA0
  rw [Tryd.params3] at hA hval
  obtain ⟨v0, vs0, d0, ds0, p0, q0, hargs, rfl, rfl, h0, g0⟩ := trodAll_cons hA
  obtain ⟨v1, vs1, d1, ds1, p1, q1, rfl, rfl, rfl, h1, g1⟩ := trodAll_cons g0
  obtain ⟨v2, vs2, d2, ds2, p2, q2, rfl, rfl, rfl, h2, g2⟩ := trodAll_cons g1
  obtain ⟨v3, vs3, d3, ds3, p3, q3, rfl, rfl, rfl, h3, g3⟩ := trodAll_cons g2
  obtain ⟨v4, vs4, d4, ds4, p4, q4, rfl, rfl, rfl, h4, g4⟩ := trodAll_cons g3
  obtain ⟨v5, vs5, d5, ds5, p5, q5, rfl, rfl, rfl, h5, g5⟩ := trodAll_cons g4
  obtain ⟨rfl, rfl, rfl⟩ := trodAll_nil g5
  obtain rfl : args = #[v0, v1, v2, v3, v4, v5] := by cases args; simp_all
  obtain ⟨rfl, rfl⟩ := trodVars_none hV
  obtain ⟨us0, rfl, _⟩ := okWide_struct Tryd.underlying24 (hval 0 24 v0 rfl rfl)
  obtain ⟨x0, y0⟩ := arg_agg (ι := fun _ => none) rd_24 h0
  obtain ⟨us1, rfl, _⟩ := okWide_struct Tryd.underlying24 (hval 1 24 v1 rfl rfl)
  obtain ⟨x1, y1⟩ := arg_agg (ι := fun _ => none) rd_24 h1
  obtain ⟨us2, rfl, _⟩ := okWide_struct Tryd.underlying27 (hval 2 27 v2 rfl rfl)
  obtain ⟨x2, y2⟩ := arg_agg (ι := fun _ => none) rd_27 h2
  obtain ⟨z3, len3, cap3, rfl⟩ := okWide_slice Tryd.underlying29 (hval 3 29 v3 rfl rfl)
  obtain ⟨x3, y3⟩ := arg_one (ι := fun _ => none) rfl rd_29 h3
  obtain ⟨z4, len4, cap4, rfl⟩ := okWide_slice Tryd.underlying30 (hval 4 30 v4 rfl rfl)
  obtain ⟨x4, y4⟩ := arg_one (ι := fun _ => none) rfl rd_30 h4
  obtain ⟨z5, rfl⟩ := okWide_string Tryd.underlying9 (hval 5 9 v5 rfl rfl)
  obtain ⟨x5, y5⟩ := arg_one (ι := fun _ => none) rfl rd_9 h5
  clear hA0 hval0
  simp only [List.append_nil] at hW'
  have hlt : ∀ x ∈ p0 ++ p1 ++ p2 ++ p3 ++ p4 ++ p5, x.block < W.heap.size := fun x hx => by simpa using hW'.lt x (by simpa using hx)
  refine (law_calls (P := Tryd.prog) (b := true) (law3_pure x0 x1 x2 x3 x4 x5) (VRs.cons y0 (VRs.cons y1 (VRs.cons y2 (VRs.cons y3 (VRs.cons y4 (VRs.cons y5 (VRs.nil _ _)))))))).mono fun e W' ⟨he, hb⟩ => ?_
  subst he
  refine ⟨_, rfl, _, _, _, [], _, [], hW', trodAll_mk1 (shut_bool Tryd.underlying4 true), (trodAll_cons_mk (Below.trod laidOut (by kernel_rfl) (of_decide_eq_true (by kernel_rfl)) h0 hb (fun x hx => hlt x (by simp [hx]))) (trodAll_cons_mk (Below.trod laidOut (by kernel_rfl) (of_decide_eq_true (by kernel_rfl)) h1 hb (fun x hx => hlt x (by simp [hx]))) (trodAll_cons_mk (Below.trod laidOut (by kernel_rfl) (of_decide_eq_true (by kernel_rfl)) h2 hb (fun x hx => hlt x (by simp [hx]))) (trodAll_cons_mk (Below.trod laidOut (by kernel_rfl) (of_decide_eq_true (by kernel_rfl)) h3 hb (fun x hx => hlt x (by simp [hx]))) (trodAll_cons_mk (Below.trod laidOut (by kernel_rfl) (of_decide_eq_true (by kernel_rfl)) h4 hb (fun x hx => hlt x (by simp [hx]))) (trodAll_cons_mk (Below.trod laidOut (by kernel_rfl) (of_decide_eq_true (by kernel_rfl)) h5 hb (fun x hx => hlt x (by simp [hx]))) trodAll_mk0)))))), rfl, hb.frame _, fun h => by cases h⟩
theorem proved3 : Rows.FormulaMatchesReferenceSaid :=
  OpenClaim.holds_of_wide 3 Tryd.f3 rfl rfl rfl rfl rfl rfl rfl ⟨rfl, rfl, rfl, rfl, rfl⟩ rfl rfl rfl rfl rfl (by kernel_rfl) Tryd.func3 (by kernel_rfl)
    (of_decide_eq_true (by kernel_rfl)) (by unfold Func.isWrapper; first | (rw [if_pos (by decide +kernel)]; kernel_rfl) | (rw [if_neg (by decide +kernel)]; exact ⟨rfl, rfl⟩))
    (fun os started H enc _ => lifted3 os started H enc)
theorem card3 : Rows.FormulaMatchesReferenceCardSaid :=
  Claim7.holds_tied_plain_at .later [] _ true (true, "4a36700912013bb2f555b7a01611f8226529d3d0a19222fa014a5d6bd73064b1") true
    proved3 (fun _ h => by cases h) (by kernel_rfl) (fun _ h => by cases h) formulaMatchesReference_row_tie rfl ⟨rfl, rfl⟩ (by kernel_rfl) rfl
    (fun f fn hf hfn => by
      obtain rfl : f = 3 := Option.some.inj ((show Tryd.prog.funcNamed "pandect/pandectlaw07.FormulaMatchesReference" = some 3 by kernel_rfl).symm.trans hf) |>.symm
      obtain rfl : fn = Tryd.f3 := (Option.some.inj (Tryd.func3.symm.trans hfn)).symm
      exact ⟨by kernel_rfl, fun j t ht => by
        rw [Tryd.params3] at ht
        have hm : t ∈ [24, 24, 27, 29, 30, 9] := by simpa using Array.mem_of_getElem? ht
        have hall : ([24, 24, 27, 29, 30, 9].all fun u => !Tryd.prog.wantsStandIn u) = true := by kernel_rfl
        exact (show Tryd.prog.wantsStandIn t = false by simpa using List.all_eq_true.1 hall t hm)⟩)
    (by kernel_rfl)
#print axioms card3
end Go.Proofs.YtphmhelkojdlaaaDoor
