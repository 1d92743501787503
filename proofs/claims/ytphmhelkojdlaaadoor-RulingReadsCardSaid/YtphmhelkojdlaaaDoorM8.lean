/- Part M8 of the proof. -/
import Derived.Test.YtphmhelkojdlaaaDoorM7
namespace Go.Proofs.YtphmhelkojdlaaaDoor
open Go.RowKit
set_option linter.unusedSimpArgs false
set_option linter.unusedVariables false
def idsS (m : Mb) (r : Ru) : Mb := mputB m r.id true
def idsM (l : List Ru) : Mb := l.foldl idsS []
def finS (kn : Int) (m : Mb) (r : Ru) : Mb := mputB m r.id (r.fin && decide (r.kn ≤ kn))
def finM (l : List Ru) (kn : Int) : Mb := l.foldl (finS kn) []
def skipC (fm : Mb) (kn : Int) (m : Mb) (r : Ru) : Bool := (decide (kn < r.kn) || (decide (r.kd = 6) && mgetB fm r.lf)) || mgetB m r.id
def stepC (fm : Mb) (kn : Int) (x : Mb × List Ru) (r : Ru) : Mb × List Ru :=
 bif skipC fm kn x.1 r then x else (bif decide (r.kd = 6) then mputB x.1 r.lf true else x.1, x.2 ++ [r])
/-- The rulings that count, the last one first, and what is lifted. -/
def cntL (fm : Mb) (kn : Int) : List Ru → Mb × List Ru
 | [] => ([], [])
 | r :: rest => stepC fm kn (cntL fm kn rest) r
theorem cntL_step (fm : Mb) (kn : Int) (l : List Ru) (k : Nat) (h : k < l.length) : cntL fm kn (l.drop k) = stepC fm kn (cntL fm kn (l.drop (k + 1))) (l.getD k Ru.z) := by
 rw [drop_get l k Ru.z h, cntL]
theorem cntL_len (fm : Mb) (kn : Int) (l : List Ru) : (cntL fm kn l).2.length ≤ l.length := by
 induction l with
 | nil => exact Nat.le_refl _
 | cons r l ih =>
  simp only [cntL, stepC]
  cases skipC fm kn (cntL fm kn l).1 r <;> simp <;> omega
theorem fold_step {α β : Type} {f : β → α → β} {l : List α} {b : β} {i : Nat} (d : α) (h : i < l.length) : (l.drop i).foldl f b = (l.drop (i + 1)).foldl f (f b (l.getD i d)) := by
 rw [drop_get l i d h]; rfl
/-- A list, reversed from its ends up to place i. -/
structure RevI (l : List Ru) (i : Nat) (w : List Ru) : Prop where
 len : w.length = l.length
 get : ∀ p, p < l.length → w.getD p Ru.z = if p < i ∨ l.length - i ≤ p then l.getD (l.length - 1 - p) Ru.z else l.getD p Ru.z
theorem getD_set {α : Type} (l : List α) (i p : Nat) (a d : α) (h : i < l.length) : (l.set i a).getD p d = if i = p then a else l.getD p d := by
 rw [List.getD_eq_getElem?_getD, List.getElem?_set]
 by_cases e : i = p
 ·subst e; simp [h]
 ·simp [e, List.getD_eq_getElem?_getD]
theorem RevI.step {l w : List Ru} {i c : Nat} (h : RevI l i w) (hi : i < c) (hc : c + 1 = l.length - i) : RevI l (i + 1) ((w.set i (w.getD c Ru.z)).set c (w.getD i Ru.z)) := by
 have hl := h.len
 have g1 := h.get c (by omega)
 have g2 := h.get i (by omega)
 rw [if_neg (by omega)] at g1 g2
 refine ⟨by simp [hl], fun p hp => ?_⟩
 rw [getD_set _ _ _ _ _ (by simp; omega), getD_set _ _ _ _ _ (by omega), g1, g2, h.get p hp]
 by_cases e1 : c = p
 ·rw [if_pos e1, if_pos (by omega)]; congr 1; omega
 ·rw [if_neg e1]
  by_cases e2 : i = p
  ·rw [if_pos e2, if_pos (by omega)]; congr 1; omega
  ·rw [if_neg e2]
   by_cases e3 : p < i ∨ l.length - i ≤ p
   ·rw [if_pos e3, if_pos (by omega)]
   ·rw [if_neg e3, if_neg (by omega)]
theorem RevI.fin {l w : List Ru} {i : Nat} (h : RevI l i w) (hi : l.length - i ≤ i + 1) : w = l.reverse := by
 apply List.ext_getElem
 ·rw [List.length_reverse]; exact h.len
 ·intro p h1 h2
  have hp : p < l.length := by rw [← h.len]; exact h1
  have := h.get p hp
  rw [getD_of_lt h1] at this
  rw [this, List.getElem_reverse]
  by_cases e : p < i ∨ l.length - i ≤ p
  ·rw [if_pos e, getD_of_lt (by omega)]
  ·rw [if_neg e, getD_of_lt hp]; congr 1; omega
def countP (l : List Ru) (kn : Int) : List Ru × Int :=
 bif !daysP [kn] then ([], 1) else bif decide ((200 : Int) < (l.length : Int)) then ([], 2) else bif l.any notValid then ([], 1) else bif decide ((idsM l).length < l.length) then ([], 9) else ((cntL (finM l kn) kn l).2.reverse, 0)
end Go.Proofs.YtphmhelkojdlaaaDoor
namespace Go.Proofs.YtphmhelkojdlaaaDoor
open Go.RowKit
set_option maxRecDepth 10000
set_option linter.unusedSimpArgs false
set_option linter.unusedVariables false
noncomputable abbrev b64_1 : Id × AO := ([31], .loop [(1000000, .any), (9, .ptr [26] 0), (42, .fn (.func 92) [.ptr [0, 29] 0, .ptr [1, 29] 0])] 51 [43] (fcode Tryd.f64 [1, 1, 1, 1, 1, 0, 1, 1, 0]) (fcode Tryd.f64 [1, 1, 1, 1, 1, 0, 1, 1, 1]) .ready none)
noncomputable abbrev b64_2 : Id × AO := ([14, 32], .loop [(1000000, .any), (2, .ptr [1, 29] 0), (3, .ptr [0, 32] 0), (4, .ptr [3, 32] 0), (5, .ptr [4, 32] 0), (32, .fn (.func 96) [.ptr [0, 12, 32] 0])] 65 [33, 34] (fcode Tryd.f92 [1, 1, 1, 1, 1, 0]) (fcode Tryd.f92 [1, 1, 1, 1, 1, 1]) .ready none)
noncomputable abbrev b64_3 : Id × AO := ([14, 32], .loop [(1000000, .any), (2, .ptr [1, 29] 0), (3, .ptr [0, 32] 0), (4, .ptr [3, 32] 0), (5, .ptr [4, 32] 0), (32, .fn (.func 96) [.ptr [0, 12, 32] 0])] 65 [33, 34] (fcode Tryd.f92 [1, 1, 1, 1, 1, 0]) (fcode Tryd.f92 [1, 1, 1, 1, 1, 1]) .busy none)
noncomputable abbrev b64_4 (l : (List Ru)) : Id × AO := ([0, 29], .row [.tv (.sli 13 (l.map celR))] false)
noncomputable abbrev b64_5 (kn : Int) : Id × AO := ([1, 29], .row [.i kn] false)
noncomputable abbrev b64_6 (l : (List Ru)) : Id × AO := ([0, 12, 32], .row [.tv (.sli 13 (l.map celR))] false)
noncomputable abbrev b64_7 (l : (List Ru)) (j : Nat) : Id × AO := ([0, 9, 5, 15, 32], .row ((celR (l.getD j Ru.z)).map .tv) false)
noncomputable abbrev b64_8 (o : (List Ru)) : Id × AO := ([26], .row [.sl [0, 5, 15, 32] 13 0 o.length] false)
noncomputable abbrev b64_9 (l : (List Ru)) (kn : Int) : Id × AO := ([26], .row [.sl [0, 5, 15, 32] 13 0 ((cntL (finM l kn) kn l).2.length)] false)
noncomputable abbrev b64_10 (o : (List Ru)) : Id × AO := ([0, 5, 15, 32], .row (flat celR o) false)
noncomputable abbrev b64_11 : Id × AO := ([31], .loop [(1000000, .any), (9, .ptr [26] 0), (42, .fn (.func 92) [.ptr [0, 29] 0, .ptr [1, 29] 0])] 51 [43] (fcode Tryd.f64 [1, 1, 1, 1, 1, 0, 1, 1, 0]) (fcode Tryd.f64 [1, 1, 1, 1, 1, 0, 1, 1, 1]) .busy none)
noncomputable abbrev b64_12 (m : Mb) (l : (List Ru)) (j : Nat) : Id × AO := ([2, 32], .smap (mB (mputB m (l.getD j Ru.z).lf true)))
noncomputable abbrev b64_13 (o : (List Ru)) (l : (List Ru)) (j : Nat) : Id × AO := ([26], .row [.sl [5, 28, 9, 5, 15, 32] 13 0 (o ++ [(l.getD j Ru.z)]).length] false)
noncomputable abbrev b64_14 (o : (List Ru)) (l : (List Ru)) (j : Nat) : Id × AO := ([26], .row [.sl [5, 32, 9, 5, 15, 32] 13 0 (o ++ [(l.getD j Ru.z)]).length] false)
noncomputable abbrev b64_15 (l : (List Ru)) (kn : Int) : Id × AO := ([0, 5, 15, 32], .row (flat celR ((cntL (finM l kn) kn l).2)) false)
noncomputable abbrev b64_16 (o : (List Ru)) (l : (List Ru)) (j : Nat) : Id × AO := ([5, 28, 9, 5, 15, 32], .row (flat celR (o ++ [(l.getD j Ru.z)])) false)
noncomputable abbrev b64_17 (o : (List Ru)) (l : (List Ru)) (j : Nat) : Id × AO := ([5, 32, 9, 5, 15, 32], .row (flat celR (o ++ [(l.getD j Ru.z)])) false)
noncomputable abbrev b64_18 (l : (List Ru)) (kn : Int) : Id × AO := ([0, 5, 15, 32], .row (flat celR ((cntL (finM l kn) kn l).2.reverse)) false)
noncomputable abbrev b64_19 (w : (List Ru)) : Id × AO := ([0, 5, 15, 32], .row (flat celR w) false)
noncomputable abbrev b64_20 (l : (List Ru)) (j : Nat) (o : (List Ru)) (m : Mb) (kn : Int) : Hp := [(b64_7 l j), (b64_10 o), b64_3, ([13, 32], .dfr), (b64_6 l), ([4, 32], .row [.map [2, 32]] false), ([3, 32], .row [.map [1, 32]] false), ([2, 32], .smap (mB m)), ([1, 32], .smap (mB (finM l kn))), ([0, 32], .row [.yl [31]] false), b64_1, ([30], .dfr), (b64_5 kn), (b64_4 l), (b64_8 o), ([2], .smap (mB (idsM l)))]
noncomputable abbrev b64_21 (o : (List Ru)) (l : (List Ru)) (m : Mb) (kn : Int) : Hp := [(b64_10 o), b64_2, ([13, 32], .dfr), (b64_6 l), ([4, 32], .row [.map [2, 32]] false), ([3, 32], .row [.map [1, 32]] false), ([2, 32], .smap (mB m)), ([1, 32], .smap (mB (finM l kn))), ([0, 32], .row [.yl [31]] false), b64_1, ([30], .dfr), (b64_5 kn), (b64_4 l), (b64_8 o), ([2], .smap (mB (idsM l)))]
noncomputable abbrev b64_22 (l : (List Ru)) (kn : Int) : Hp := [(b64_6 l), ([4, 32], .row [.map [2, 32]] false), ([3, 32], .row [.map [1, 32]] false), ([2, 32], .smap []), ([1, 32], .smap (mB (finM l kn))), ([0, 32], .row [.yl [31]] false), b64_1, ([30], .dfr), (b64_5 kn), (b64_4 l), ([26], .row [.tv .nils] false), ([2], .smap (mB (idsM l)))]
noncomputable abbrev b64_23 (o : (List Ru)) (l : (List Ru)) (j : Nat) (m : Mb) (kn : Int) : Hp := [(b64_16 o l j), b64_2, ([13, 32], .dfr), (b64_6 l), ([4, 32], .row [.map [2, 32]] false), ([3, 32], .row [.map [1, 32]] false), ([2, 32], .smap (mB m)), ([1, 32], .smap (mB (finM l kn))), ([0, 32], .row [.yl [31]] false), b64_1, ([30], .dfr), (b64_5 kn), (b64_4 l), (b64_13 o l j), ([2], .smap (mB (idsM l)))]
noncomputable abbrev b64_24 (o : (List Ru)) (l : (List Ru)) (j : Nat) (m : Mb) (kn : Int) : Hp := [(b64_17 o l j), b64_2, ([13, 32], .dfr), (b64_6 l), ([4, 32], .row [.map [2, 32]] false), ([3, 32], .row [.map [1, 32]] false), (b64_12 m l j), ([1, 32], .smap (mB (finM l kn))), ([0, 32], .row [.yl [31]] false), b64_1, ([30], .dfr), (b64_5 kn), (b64_4 l), (b64_14 o l j), ([2], .smap (mB (idsM l)))]
noncomputable abbrev b64_25 (o : (List Ru)) (l : (List Ru)) (j : Nat) (m : Mb) (kn : Int) : Hp := [(b64_16 o l j), (b64_7 l j), b64_3, ([13, 32], .dfr), (b64_6 l), ([4, 32], .row [.map [2, 32]] false), ([3, 32], .row [.map [1, 32]] false), ([2, 32], .smap (mB m)), ([1, 32], .smap (mB (finM l kn))), ([0, 32], .row [.yl [31]] false), b64_1, ([30], .dfr), (b64_5 kn), (b64_4 l), (b64_13 o l j), ([2], .smap (mB (idsM l)))]
noncomputable abbrev b64_26 (l : (List Ru)) (j : Nat) (o : (List Ru)) (m : Mb) (kn : Int) : Hp := [(b64_7 l j), (b64_10 o), b64_2, ([13, 32], .dfr), (b64_6 l), ([4, 32], .row [.map [2, 32]] false), ([3, 32], .row [.map [1, 32]] false), ([2, 32], .smap (mB m)), ([1, 32], .smap (mB (finM l kn))), ([0, 32], .row [.yl [31]] false), b64_1, ([30], .dfr), (b64_5 kn), (b64_4 l), (b64_8 o), ([2], .smap (mB (idsM l)))]
noncomputable abbrev b64_27 (o : (List Ru)) (l : (List Ru)) (j : Nat) (m : Mb) (kn : Int) : Hp := [(b64_17 o l j), (b64_7 l j), b64_3, ([13, 32], .dfr), (b64_6 l), ([4, 32], .row [.map [2, 32]] false), ([3, 32], .row [.map [1, 32]] false), (b64_12 m l j), ([1, 32], .smap (mB (finM l kn))), ([0, 32], .row [.yl [31]] false), b64_1, ([30], .dfr), (b64_5 kn), (b64_4 l), (b64_14 o l j), ([2], .smap (mB (idsM l)))]
noncomputable abbrev b64_28 (l : (List Ru)) (j : Nat) (o : (List Ru)) (m : Mb) (kn : Int) : Hp := [(b64_7 l j), (b64_10 o), b64_3, ([13, 32], .dfr), (b64_6 l), ([4, 32], .row [.map [2, 32]] false), ([3, 32], .row [.map [1, 32]] false), (b64_12 m l j), ([1, 32], .smap (mB (finM l kn))), ([0, 32], .row [.yl [31]] false), b64_1, ([30], .dfr), (b64_5 kn), (b64_4 l), (b64_8 o), ([2], .smap (mB (idsM l)))]
noncomputable abbrev b64_29 (l : (List Ru)) (i2 : Nat) (fm : Mb) (kn : Int) : Hp := [([3, 10, 32], .row ((celR (l.getD i2 Ru.z)).map .tv) false), ([4, 32], .row [.map [2, 32]] false), ([3, 32], .row [.map [1, 32]] false), ([2, 32], .smap []), ([1, 32], .smap (mB (mputB fm (l.getD i2 Ru.z).id ((l.getD i2 Ru.z).fin && (decide ((l.getD i2 Ru.z).kn ≤ kn)))))), ([0, 32], .row [.yl [31]] false), b64_1, ([30], .dfr), (b64_5 kn), (b64_4 l), ([26], .row [.tv .nils] false), ([2], .smap (mB (idsM l)))]
noncomputable abbrev b64_30 (l : (List Ru)) (kn : Int) : Hp := [(b64_15 l kn), b64_2, ([13, 32], .dfr), (b64_6 l), ([4, 32], .row [.map [2, 32]] false), ([3, 32], .row [.map [1, 32]] false), ([2, 32], .smap (mB ((cntL (finM l kn) kn l).1))), ([1, 32], .smap (mB (finM l kn))), ([0, 32], .row [.yl [31]] false), b64_1, ([30], .dfr), (b64_5 kn), (b64_4 l), (b64_9 l kn), ([2], .smap (mB (idsM l)))]
noncomputable abbrev b64_31 (l : (List Ru)) (kn : Int) : Hp := [([4, 32], .row [.map [2, 32]] false), ([3, 32], .row [.map [1, 32]] false), ([2, 32], .smap []), ([1, 32], .smap (mB (finM l kn))), ([0, 32], .row [.yl [31]] false), b64_1, ([30], .dfr), (b64_5 kn), (b64_4 l), ([26], .row [.tv .nils] false), ([2], .smap (mB (idsM l)))]
noncomputable abbrev b64_32 (fm : Mb) (kn : Int) (l : (List Ru)) : Hp := [([4, 32], .row [.map [2, 32]] false), ([3, 32], .row [.map [1, 32]] false), ([2, 32], .smap []), ([1, 32], .smap (mB fm)), ([0, 32], .row [.yl [31]] false), b64_1, ([30], .dfr), (b64_5 kn), (b64_4 l), ([26], .row [.tv .nils] false), ([2], .smap (mB (idsM l)))]
noncomputable abbrev b64_33 (kn : Int) (l : (List Ru)) : Hp := [([4, 32], .row [.map [2, 32]] false), ([3, 32], .row [.map [1, 32]] false), ([2, 32], .smap []), ([1, 32], .smap []), ([0, 32], .row [.yl [31]] false), b64_1, ([30], .dfr), (b64_5 kn), (b64_4 l), ([26], .row [.tv .nils] false), ([2], .smap (mB (idsM l)))]
noncomputable abbrev b64_34 (kn : Int) (l : (List Ru)) : Hp := [(b64_5 kn), (b64_4 l), ([26], .row [.tv .nils] false), ([2], .smap (mB (idsM l)))]
noncomputable abbrev b64_35 (l : (List Ru)) (kn : Int) : Hp := [(b64_18 l kn), ([30], .dfr), (b64_5 kn), (b64_4 l), (b64_9 l kn), ([2], .smap (mB (idsM l)))]
noncomputable abbrev b64_36 (w : (List Ru)) (kn : Int) (l : (List Ru)) : Hp := [(b64_19 w), ([30], .dfr), (b64_5 kn), (b64_4 l), (b64_9 l kn), ([2], .smap (mB (idsM l)))]
noncomputable abbrev b64_37 (l : (List Ru)) (kn : Int) : Hp := [(b64_15 l kn), ([30], .dfr), (b64_5 kn), (b64_4 l), (b64_9 l kn), ([2], .smap (mB (idsM l)))]
noncomputable abbrev b64_38 (l : (List Ru)) (kn : Int) : Hp := [b64_2, ([13, 32], .dfr), (b64_6 l), ([4, 32], .row [.map [2, 32]] false), ([3, 32], .row [.map [1, 32]] false), ([2, 32], .smap []), ([1, 32], .smap (mB (finM l kn))), ([0, 32], .row [.yl [31]] false), b64_1, ([30], .dfr), (b64_5 kn), (b64_4 l), ([26], .row [.tv .nils] false), ([2], .smap (mB (idsM l)))]
theorem c64 (l : (List Ru)) (kn : Int)  : PureCall Tryd.prog 64 [.tv (.sli 13 (l.map celR)), .i kn] (.tup [.tv (.sli 13 (((countP l kn).1).map celR)), .i ((countP l kn).2)]) := by
 refine walk0 (fn := Tryd.f64) [.tmp 4, .tmp 5] Tryd.func64 rfl (by kernel_rfl) rfl (by kernel_rfl) (by kernel_rfl) ?_
 change AT _ _ _ ⟨[(0, .tv (.sli 13 (l.map celR))), (1, .i kn)], [], [], 0⟩
 refine at_len 0 rfl (fun hlen => ?_)
 refine at_B [0, 1] [] [] [(1000000, .any), (0, .tv (.sli 13 (l.map celR))), (1, .i kn)] [] 2 (by kernel_rfl) ?_ ?_
 ·exact trivial
 refine at_B [0, 1, 6] [] [] [(1000000, .any), (0, .tv (.sli 13 (l.map celR))), (1, .i kn), (6, .map [2])] [([2], .smap [])] 4 (by kernel_rfl) ?_ ?_
 ·exact trivial
 refine at_seq ?_
 refine at_B [0, 1, 6, 12, 13, 14] [] [] [(1000000, .any), (0, .tv (.sli 13 (l.map celR))), (1, .i kn), (6, .map [2]), (12, .tv (.sli 13 (l.map celR))), (13, .i (((l.map celR).length : Nat) : Int)), (14, .i 0)] [([2], .smap [])] 7 (by kernel_rfl) ?_ ?_
 ·exact trivial
 refine at_block ?_
 refine at_loopR (X := Nat × Mb) 0 (fun ((i, ids) : Nat × Mb) => [(1000000, .any), (0, .tv (.sli 13 (l.map celR))), (1, .i kn), (6, .map [2]), (12, .tv (.sli 13 (l.map celR))), (13, .i (((l.map celR).length : Nat) : Int)), (14, .i ((i : Nat) : Int))]) (fun ((i, ids) : Nat × Mb) => [([2], .smap (mB ids))]) (fun ((i, ids) : Nat × Mb) => i ≤ l.length ∧ (l.drop i).foldl idsS ids = idsM l) (fun ((i, ids) : Nat × Mb) => l.length - i) (0, []) ?_ ?_ ?_
 ·exact ⟨Nat.zero_le _, rfl⟩
 ·exact rn_ok [([2], [2])] [] [0, 1, 6, 12, 13, 14] (trivial) (by kernel_rfl)
 ·rintro ⟨i, ids⟩ hinv
  dsimp only at hinv ⊢
  obtain ⟨hx1, hx2⟩ := hinv
  refine at_B [0, 1, 6, 12, 13, 14, 15] [] [] [(1000000, .any), (0, .tv (.sli 13 (l.map celR))), (1, .i kn), (6, .map [2]), (12, .tv (.sli 13 (l.map celR))), (13, .i (((l.map celR).length : Nat) : Int)), (14, .i ((i : Nat) : Int)), (15, .b (decide (((i : Nat) : Int) < (((l.map celR).length : Nat) : Int))))] [([2], .smap (mB ids))] 1 (by kernel_rfl) ?_ ?_
  ·exact trivial
  refine at_seq ?_
  refine at_cond (b := (decide (((i : Nat) : Int) < (((l.map celR).length : Nat) : Int)))) rfl rfl (fun hc15 => ?_) (fun hc15 => ?_)
  ·have q15 := hc15
   (try simp only [brs] at q15)
   refine at_skip ?_
   change AT _ _ _ _
   refine at_seq ?_
   refine at_block ?_
   refine at_B [0, 1, 6, 8, 12, 13, 14] [.eq (.tv (.ptr (celR (l.getD i Ru.z))))] [(0 ≤ ((i : Nat) : Int) ∧ ((i : Nat) : Int) < ((((l.map celR) : List (List TV)).length : Nat) : Int)), (.tv (.ptr (rowAt (l.map celR) ((i : Nat) : Int))) : AV) = .tv (.ptr (celR (l.getD i Ru.z)))] [(1000000, .any), (0, .tv (.sli 13 (l.map celR))), (1, .i kn), (6, .map [2]), (8, .ptr [3, 7] 0), (12, .tv (.sli 13 (l.map celR))), (13, .i (((l.map celR).length : Nat) : Int)), (14, .i ((i : Nat) : Int))] [([3, 7], .row ((celR (l.getD i Ru.z)).map .tv) false), ([2], .smap (mB ids))] 5 (by kernel_rfl) ?_ ?_
   ·exact ⟨by (try simp only [lns] at *); omega, congrArg (fun c => AV.tv (.ptr c)) (row_R l ((i : Nat) : Int) (by (try simp only [brs, lns] at *); omega)), trivial⟩
   refine at_Bl [0, 1, 6, 12, 13, 14] [.std, .std, .std, .eff (.tup []) (.smap (mB (mputB ids (l.getD i Ru.z).id true)))] [(.tup [] : AV) = .tup [], (.smap (sput (mB ids) (l.getD i Ru.z).id (.b true)) : AO) = .smap (mB (mputB ids (l.getD i Ru.z).id true))] [(1000000, .any), (0, .tv (.sli 13 (l.map celR))), (1, .i kn), (6, .map [2]), (12, .tv (.sli 13 (l.map celR))), (13, .i (((l.map celR).length : Nat) : Int)), (14, .i ((i : Nat) : Int))] [([3, 7], .row ((celR (l.getD i Ru.z)).map .tv) false), ([2], .smap (mB (mputB ids (l.getD i Ru.z).id true)))] 9 (by kernel_rfl) ?_ ?_
   ·exact ⟨rfl, congrArg AO.smap (mB_put _ _ _), trivial⟩
   change AT _ _ _ _
   refine at_Bl [0, 1, 6, 12, 13, 14] [.eq (.i ((i + 1 : Nat) : Int))] [(.i (wr (((i : Nat) : Int) + 1)) : AV) = .i ((i + 1 : Nat) : Int)] [(1000000, .any), (0, .tv (.sli 13 (l.map celR))), (1, .i kn), (6, .map [2]), (12, .tv (.sli 13 (l.map celR))), (13, .i (((l.map celR).length : Nat) : Int)), (14, .i ((i + 1 : Nat) : Int))] [([3, 7], .row ((celR (l.getD i Ru.z)).map .tv) false), ([2], .smap (mB (mputB ids (l.getD i Ru.z).id true)))] 11 (by kernel_rfl) ?_ ?_
   ·exact ⟨succ_av i (by (try simp only [lns] at *); omega), trivial⟩
   refine ⟨rfl, (i + 1, (mputB ids (l.getD i Ru.z).id true)), ?_, ?_, ?_⟩
   ·(try dsimp only); omega
   ·(try dsimp only); exact ⟨by omega, (fold_step (f := idsS) Ru.z (by omega)).symm.trans hx2⟩
   ·exact rn_ok [([2], [2])] [[2]] [0, 1, 6, 12, 13, 14] (⟨clO_mB _, trivial⟩) (by kernel_rfl)
  ·have q15 := hc15
   (try simp only [brs] at q15)
   have hsub : ids = (idsM l) := by rw [← hx2, List.drop_of_length_le (by omega)]; rfl
   subst hsub
   refine at_exit ?_
   change AT _ _ _ _
   refine at_seq ?_
   refine at_block ?_
   refine at_B [0, 1, 6, 22] [.std, .eq (.tv (.sli 1 (([kn] : List _).map encI))), .ret (.b (daysP ([kn])))] [(.tv (.sli 1 [[.int .i64 kn]]) : AV) = .tv (.sli 1 (([kn] : List _).map encI)), PureCall Tryd.prog 68 [.tv (.sli 1 (([kn] : List _).map encI))] (.b (daysP ([kn])))] [(1000000, .any), (0, .tv (.sli 13 (l.map celR))), (1, .i kn), (6, .map [2]), (22, .b (!(daysP ([kn]))))] [([2], .smap (mB (idsM l)))] 13 (by kernel_rfl) ?_ ?_
   ·exact ⟨rfl, (c68 [kn]), trivial⟩
   refine at_cond (b := (!(daysP ([kn])))) rfl rfl (fun hc22 => ?_) (fun hc22 => ?_)
   ·have q22 := hc22
    (try simp only [brs] at q22)
    refine at_B [4, 5] [] [] [(1000000, .any), (4, .tv .nils), (5, .i 1)] [([2], .smap (mB (idsM l)))] 15 (by kernel_rfl) ?_ ?_
    ·exact trivial
    refine at_ret ?_
    refine fin0 (.inr rfl) (.tup [.tv .nils, .i 1]) [([2], .smap (mB (idsM l)))] (.tup [.tv .nils, .i 1]) (H2 := [([2], .smap (mB (idsM l)))]) (by kernel_rfl) (by kernel_rfl) ?_
    refine Le.trans (b := .tup [.tv (.sli 13 (([] : List _).map celR)), .i 1]) (Le.tup (.cons (Le.nils 13) (.cons (Le.refl _) .nil))) (Le.of_eq ?_)
    simp only [countP, hc22, cond_true]
   ·have q22 := hc22
    (try simp only [brs] at q22)
    refine at_B [0, 1, 6, 27] [] [] [(1000000, .any), (0, .tv (.sli 13 (l.map celR))), (1, .i kn), (6, .map [2]), (27, .b (decide ((200 : Int) < (((l.map celR).length : Nat) : Int))))] [([2], .smap (mB (idsM l)))] 17 (by kernel_rfl) ?_ ?_
    ·exact trivial
    refine at_cond (b := (decide ((200 : Int) < (((l.map celR).length : Nat) : Int)))) rfl rfl (fun hc27 => ?_) (fun hc27 => ?_)
    ·have q27 := hc27
     (try simp only [brs] at q27)
     refine at_B [4, 5] [] [] [(1000000, .any), (4, .tv .nils), (5, .i 2)] [([2], .smap (mB (idsM l)))] 19 (by kernel_rfl) ?_ ?_
     ·exact trivial
     refine at_ret ?_
     refine fin0 (.inr rfl) (.tup [.tv .nils, .i 2]) [([2], .smap (mB (idsM l)))] (.tup [.tv .nils, .i 2]) (H2 := [([2], .smap (mB (idsM l)))]) (by kernel_rfl) (by kernel_rfl) ?_
     refine Le.trans (b := .tup [.tv (.sli 13 (([] : List _).map celR)), .i 2]) (Le.tup (.cons (Le.nils 13) (.cons (Le.refl _) .nil))) (Le.of_eq ?_)
     simp only [countP, hc22, cond_false]
     rw [show decide ((200 : Int) < (l.length : Int)) = true by simpa using hc27]; rfl
    ·have q27 := hc27
     (try simp only [brs] at q27)
     refine at_B [0, 1, 6, 31] [.std, .ret (.b (List.any l notValid))] [PureCall Tryd.prog 82 [.tv (.sli 13 (l.map celR)), .tv (.fn 83)] (.b (List.any l notValid))] [(1000000, .any), (0, .tv (.sli 13 (l.map celR))), (1, .i kn), (6, .map [2]), (31, .b (List.any l notValid))] [([2], .smap (mB (idsM l)))] 20 (by kernel_rfl) ?_ ?_
     ·exact ⟨(c82 l), trivial⟩
     refine at_cond (b := (List.any l notValid)) rfl rfl (fun hc31 => ?_) (fun hc31 => ?_)
     ·have q31 := hc31
      (try simp only [brs] at q31)
      refine at_B [4, 5] [] [] [(1000000, .any), (4, .tv .nils), (5, .i 1)] [([2], .smap (mB (idsM l)))] 22 (by kernel_rfl) ?_ ?_
      ·exact trivial
      refine at_ret ?_
      refine fin0 (.inr rfl) (.tup [.tv .nils, .i 1]) [([2], .smap (mB (idsM l)))] (.tup [.tv .nils, .i 1]) (H2 := [([2], .smap (mB (idsM l)))]) (by kernel_rfl) (by kernel_rfl) ?_
      refine Le.trans (b := .tup [.tv (.sli 13 (([] : List _).map celR)), .i 1]) (Le.tup (.cons (Le.nils 13) (.cons (Le.refl _) .nil))) (Le.of_eq ?_)
      simp only [countP, hc22, cond_false]
      rw [show decide ((200 : Int) < (l.length : Int)) = false by simpa using hc27, hc31]; rfl
     ·have q31 := hc31
      (try simp only [brs] at q31)
      refine at_B [0, 1, 34] [] [] [(1000000, .any), (0, .tv (.sli 13 (l.map celR))), (1, .i kn), (34, .b (decide ((((mB (idsM l)).length : Nat) : Int) < (((l.map celR).length : Nat) : Int))))] [([2], .smap (mB (idsM l)))] 26 (by kernel_rfl) ?_ ?_
      ·exact trivial
      refine at_cond (b := (decide ((((mB (idsM l)).length : Nat) : Int) < (((l.map celR).length : Nat) : Int)))) rfl rfl (fun hc34 => ?_) (fun hc34 => ?_)
      ·have q34 := hc34
       (try simp only [brs] at q34)
       refine at_B [4, 5] [] [] [(1000000, .any), (4, .tv .nils), (5, .i 9)] [([2], .smap (mB (idsM l)))] 28 (by kernel_rfl) ?_ ?_
       ·exact trivial
       refine at_ret ?_
       refine fin0 (.inr rfl) (.tup [.tv .nils, .i 9]) [([2], .smap (mB (idsM l)))] (.tup [.tv .nils, .i 9]) (H2 := [([2], .smap (mB (idsM l)))]) (by kernel_rfl) (by kernel_rfl) ?_
       refine Le.trans (b := .tup [.tv (.sli 13 (([] : List _).map celR)), .i 9]) (Le.tup (.cons (Le.nils 13) (.cons (Le.refl _) .nil))) (Le.of_eq ?_)
       simp only [countP, hc22, cond_false]
       rw [show decide ((200 : Int) < (l.length : Int)) = false by simpa using hc27, hc31, show decide ((idsM l).length < l.length) = true by simpa [mB_len] using hc34]; rfl
      ·have q34 := hc34
       (try simp only [brs] at q34)
       refine at_skip ?_
       change AT _ _ _ _
       refine at_B [0, 1, 9] [] [] [(1000000, .any), (0, .tv (.sli 13 (l.map celR))), (1, .i kn), (9, .ptr [26] 0)] [([26], .row [.tv .nils] false), ([2], .smap (mB (idsM l)))] 27 (by kernel_rfl) ?_ ?_
       ·exact trivial
       refine at_seq ?_
       refine at_B [9, 42] [.std, .std, .retH (.fn (.func 92) [.ptr [0, 29] 0, .ptr [1, 29] 0]) (b64_34 kn l)] [CallOK Tryd.prog 84 [.tv (.sli 13 (l.map celR)), .i kn] [([26], .row [.tv .nils] false), ([2], .smap (mB (idsM l)))] [29] (fun v1 H1 => v1 = (.fn (.func 92) [.ptr [0, 29] 0, .ptr [1, 29] 0]) ∧ H1 = (b64_34 kn l))] [(1000000, .any), (9, .ptr [26] 0), (42, .fn (.func 92) [.ptr [0, 29] 0, .ptr [1, 29] 0])] (b64_34 kn l) 30 (by kernel_rfl) ?_ ?_
       ·refine ⟨?_, trivial⟩
        ·refine call_in (fn := Tryd.f84) [.tmp 4] Tryd.func84 rfl (by kernel_rfl) rfl ?_
         change AT _ _ _ ⟨[(0, .tv (.sli 13 (l.map celR))), (1, .i kn)], [([26], .row [.tv .nils] false), ([2], .smap (mB (idsM l)))], [29], 0⟩
         refine at_B [2, 3] [] [] [(1000000, .any), (2, .ptr [0, 29] 0), (3, .ptr [1, 29] 0)] (b64_34 kn l) 3 (by kernel_rfl) ?_ ?_
         ·exact trivial
         refine at_B [4] [] [] [(1000000, .any), (4, .fn (.func 92) [.ptr [0, 29] 0, .ptr [1, 29] 0])] (b64_34 kn l) 5 (by kernel_rfl) ?_ ?_
         ·exact trivial
         refine at_ret ?_
         exact fin_in (.inr rfl) [[1, 29], [0, 29], [26], [2]] (.fn (.func 92) [.ptr [0, 29] 0, .ptr [1, 29] 0]) (b64_34 kn l) (by kernel_rfl) rfl (by kernel_rfl)
       refine at_block ?_
       refine at_keepB [9, 42] [(1000000, .any), (9, .ptr [26] 0), (42, .fn (.func 92) [.ptr [0, 29] 0, .ptr [1, 29] 0])] (by kernel_rfl) ?_
       refine at_rf 92 [.ptr [0, 29] 0, .ptr [1, 29] 0] (.tup []) [(b64_15 l kn), b64_1, ([30], .dfr), (b64_5 kn), (b64_4 l), (b64_9 l kn), ([2], .smap (mB (idsM l)))] [(1000000, .any), (9, .ptr [26] 0), (42, .fn (.func 92) [.ptr [0, 29] 0, .ptr [1, 29] 0])] 51 [43] (fcode Tryd.f64 [1, 1, 1, 1, 1, 0, 1, 1, 0]) (fcode Tryd.f64 [1, 1, 1, 1, 1, 0, 1, 1, 1]) [9, 42] [[0, 5, 15, 32], [30], [1, 29], [0, 29], [26], [2]] [(1000000, .ds [.ptr [30] 0]), (9, .ptr [26] 0), (42, .fn (.func 92) [.ptr [0, 29] 0, .ptr [1, 29] 0])] (b64_37 l kn) (by kernel_rfl) rfl (by kernel_rfl) ?_ (by kernel_rfl) (by kernel_rfl) rfl (by kernel_rfl) ?_
       ·refine call_in (fn := Tryd.f92) [] Tryd.func92 rfl (by kernel_rfl) rfl ?_
        change AT _ _ _ ⟨[(0, .yl [31]), (1, .ptr [0, 29] 0), (2, .ptr [1, 29] 0)], [b64_1, ([30], .dfr), (b64_5 kn), (b64_4 l), ([26], .row [.tv .nils] false), ([2], .smap (mB (idsM l)))], [32], 0⟩
        refine at_B [1, 2, 3] [] [] [(1000000, .any), (1, .ptr [0, 29] 0), (2, .ptr [1, 29] 0), (3, .ptr [0, 32] 0)] [([0, 32], .row [.yl [31]] false), b64_1, ([30], .dfr), (b64_5 kn), (b64_4 l), ([26], .row [.tv .nils] false), ([2], .smap (mB (idsM l)))] 1 (by kernel_rfl) ?_ ?_
        ·exact trivial
        refine at_B [1, 2, 3, 4, 5] [] [] [(1000000, .any), (1, .ptr [0, 29] 0), (2, .ptr [1, 29] 0), (3, .ptr [0, 32] 0), (4, .ptr [3, 32] 0), (5, .ptr [4, 32] 0)] (b64_33 kn l) 7 (by kernel_rfl) ?_ ?_
        ·exact trivial
        refine at_seq ?_
        refine at_B [1, 2, 3, 4, 5, 13, 14, 15] [] [] [(1000000, .any), (1, .ptr [0, 29] 0), (2, .ptr [1, 29] 0), (3, .ptr [0, 32] 0), (4, .ptr [3, 32] 0), (5, .ptr [4, 32] 0), (13, .tv (.sli 13 (l.map celR))), (14, .i (((l.map celR).length : Nat) : Int)), (15, .i 0)] (b64_33 kn l) 10 (by kernel_rfl) ?_ ?_
        ·exact trivial
        refine at_block ?_
        refine at_len 13 rfl (fun hlen48 => ?_)
        refine at_loopR (X := Nat × Mb) 0 (fun ((i2, fm) : Nat × Mb) => [(1000000, .any), (1, .ptr [0, 29] 0), (2, .ptr [1, 29] 0), (3, .ptr [0, 32] 0), (4, .ptr [3, 32] 0), (5, .ptr [4, 32] 0), (13, .tv (.sli 13 (l.map celR))), (14, .i (((l.map celR).length : Nat) : Int)), (15, .i ((i2 : Nat) : Int))]) (fun ((i2, fm) : Nat × Mb) => (b64_32 fm kn l)) (fun ((i2, fm) : Nat × Mb) => i2 ≤ l.length ∧ (l.drop i2).foldl (finS kn) fm = finM l kn) (fun ((i2, fm) : Nat × Mb) => l.length - i2) (0, []) ?_ ?_ ?_
        ·exact ⟨Nat.zero_le _, rfl⟩
        ·exact rn_ok [([4, 32], [4, 32]), ([3, 32], [3, 32]), ([2, 32], [2, 32]), ([1, 32], [1, 32]), ([0, 32], [0, 32]), ([31], [31]), ([30], [30]), ([1, 29], [1, 29]), ([0, 29], [0, 29]), ([26], [26]), ([2], [2])] [[2]] [1, 2, 3, 4, 5, 13, 14, 15] (⟨clO_mB _, trivial⟩) (by kernel_rfl)
        ·rintro ⟨i2, fm⟩ hinv
         dsimp only at hinv ⊢
         obtain ⟨hy1, hy2⟩ := hinv
         refine at_B [1, 2, 3, 4, 5, 13, 14, 15, 16] [] [] [(1000000, .any), (1, .ptr [0, 29] 0), (2, .ptr [1, 29] 0), (3, .ptr [0, 32] 0), (4, .ptr [3, 32] 0), (5, .ptr [4, 32] 0), (13, .tv (.sli 13 (l.map celR))), (14, .i (((l.map celR).length : Nat) : Int)), (15, .i ((i2 : Nat) : Int)), (16, .b (decide (((i2 : Nat) : Int) < (((l.map celR).length : Nat) : Int))))] (b64_32 fm kn l) 1 (by kernel_rfl) ?_ ?_
         ·exact trivial
         refine at_seq ?_
         refine at_cond (b := (decide (((i2 : Nat) : Int) < (((l.map celR).length : Nat) : Int)))) rfl rfl (fun hc16_2 => ?_) (fun hc16_2 => ?_)
         ·have q16_2 := hc16_2
          (try simp only [brs] at q16_2)
          refine at_skip ?_
          change AT _ _ _ _
          refine at_seq ?_
          refine at_block ?_
          refine at_B [1, 2, 3, 4, 5, 7, 13, 14, 15] [.eq (.tv (.ptr (celR (l.getD i2 Ru.z))))] [(0 ≤ ((i2 : Nat) : Int) ∧ ((i2 : Nat) : Int) < ((((l.map celR) : List (List TV)).length : Nat) : Int)), (.tv (.ptr (rowAt (l.map celR) ((i2 : Nat) : Int))) : AV) = .tv (.ptr (celR (l.getD i2 Ru.z)))] [(1000000, .any), (1, .ptr [0, 29] 0), (2, .ptr [1, 29] 0), (3, .ptr [0, 32] 0), (4, .ptr [3, 32] 0), (5, .ptr [4, 32] 0), (7, .ptr [3, 10, 32] 0), (13, .tv (.sli 13 (l.map celR))), (14, .i (((l.map celR).length : Nat) : Int)), (15, .i ((i2 : Nat) : Int))] [([3, 10, 32], .row ((celR (l.getD i2 Ru.z)).map .tv) false), ([4, 32], .row [.map [2, 32]] false), ([3, 32], .row [.map [1, 32]] false), ([2, 32], .smap []), ([1, 32], .smap (mB fm)), ([0, 32], .row [.yl [31]] false), b64_1, ([30], .dfr), (b64_5 kn), (b64_4 l), ([26], .row [.tv .nils] false), ([2], .smap (mB (idsM l)))] 5 (by kernel_rfl) ?_ ?_
          ·exact ⟨by (try simp only [lns] at *); omega, congrArg (fun c => AV.tv (.ptr c)) (row_R l ((i2 : Nat) : Int) (by (try simp only [brs, lns] at *); omega)), trivial⟩
          refine at_Bl [1, 2, 3, 4, 5, 13, 14, 15] [.std, .std, .std, .std, .std, .std, .std, .std, .std, .std, .std, .eff (.tup []) (.smap (mB (mputB fm (l.getD i2 Ru.z).id ((l.getD i2 Ru.z).fin && (decide ((l.getD i2 Ru.z).kn ≤ kn))))))] [(.tup [] : AV) = .tup [], (.smap (sput (mB fm) (l.getD i2 Ru.z).id (.b ((l.getD i2 Ru.z).fin && (decide ((l.getD i2 Ru.z).kn ≤ kn))))) : AO) = .smap (mB (mputB fm (l.getD i2 Ru.z).id ((l.getD i2 Ru.z).fin && (decide ((l.getD i2 Ru.z).kn ≤ kn)))))] [(1000000, .any), (1, .ptr [0, 29] 0), (2, .ptr [1, 29] 0), (3, .ptr [0, 32] 0), (4, .ptr [3, 32] 0), (5, .ptr [4, 32] 0), (13, .tv (.sli 13 (l.map celR))), (14, .i (((l.map celR).length : Nat) : Int)), (15, .i ((i2 : Nat) : Int))] (b64_29 l i2 fm kn) 17 (by kernel_rfl) ?_ ?_
          ·exact ⟨rfl, congrArg AO.smap (mB_put _ _ _), trivial⟩
          change AT _ _ _ _
          refine at_Bl [1, 2, 3, 4, 5, 13, 14, 15] [.eq (.i ((i2 + 1 : Nat) : Int))] [(.i (wr (((i2 : Nat) : Int) + 1)) : AV) = .i ((i2 + 1 : Nat) : Int)] [(1000000, .any), (1, .ptr [0, 29] 0), (2, .ptr [1, 29] 0), (3, .ptr [0, 32] 0), (4, .ptr [3, 32] 0), (5, .ptr [4, 32] 0), (13, .tv (.sli 13 (l.map celR))), (14, .i (((l.map celR).length : Nat) : Int)), (15, .i ((i2 + 1 : Nat) : Int))] (b64_29 l i2 fm kn) 19 (by kernel_rfl) ?_ ?_
          ·exact ⟨succ_av i2 (by (try simp only [lns] at *); omega), trivial⟩
          refine ⟨rfl, (i2 + 1, (mputB fm (l.getD i2 Ru.z).id ((l.getD i2 Ru.z).fin && (decide ((l.getD i2 Ru.z).kn ≤ kn))))), ?_, ?_, ?_⟩
          ·(try dsimp only); omega
          ·(try dsimp only); exact ⟨by omega, (fold_step (f := finS kn) Ru.z (by omega)).symm.trans hy2⟩
          ·exact rn_ok [([4, 32], [4, 32]), ([3, 32], [3, 32]), ([2, 32], [2, 32]), ([1, 32], [1, 32]), ([0, 32], [0, 32]), ([31], [31]), ([30], [30]), ([1, 29], [1, 29]), ([0, 29], [0, 29]), ([26], [26]), ([2], [2])] [[1, 32], [2]] [1, 2, 3, 4, 5, 13, 14, 15] (⟨clO_mB _, clO_mB _, trivial⟩) (by kernel_rfl)
         ·have q16_2 := hc16_2
          (try simp only [brs] at q16_2)
          have hsub : fm = (finM l kn) := by rw [← hy2, List.drop_of_length_le (by omega)]; rfl
          subst hsub
          refine at_exit ?_
          change AT _ _ _ _
          refine at_B [2, 3, 4, 5, 32] [.std, .retH (.fn (.func 96) [.ptr [0, 12, 32] 0]) (b64_22 l kn)] [CallOK Tryd.prog 93 [.tv (.sli 13 (l.map celR))] (b64_31 l kn) [12, 32] (fun v1 H1 => v1 = (.fn (.func 96) [.ptr [0, 12, 32] 0]) ∧ H1 = (b64_22 l kn))] [(1000000, .any), (2, .ptr [1, 29] 0), (3, .ptr [0, 32] 0), (4, .ptr [3, 32] 0), (5, .ptr [4, 32] 0), (32, .fn (.func 96) [.ptr [0, 12, 32] 0])] (b64_22 l kn) 13 (by kernel_rfl) ?_ ?_
          ·refine ⟨?_, trivial⟩
           ·refine call_in (fn := Tryd.f93) [.tmp 2] Tryd.func93 rfl (by kernel_rfl) rfl ?_
            change AT _ _ _ ⟨[(0, .tv (.sli 13 (l.map celR)))], (b64_31 l kn), [12, 32], 0⟩
            refine at_B [1] [] [] [(1000000, .any), (1, .ptr [0, 12, 32] 0)] (b64_22 l kn) 2 (by kernel_rfl) ?_ ?_
            ·exact trivial
            refine at_B [2] [] [] [(1000000, .any), (2, .fn (.func 96) [.ptr [0, 12, 32] 0])] (b64_22 l kn) 4 (by kernel_rfl) ?_ ?_
            ·exact trivial
            refine at_ret ?_
            exact fin_in (.inr rfl) [[0, 12, 32], [4, 32], [3, 32], [2, 32], [1, 32], [0, 32], [31], [30], [1, 29], [0, 29], [26], [2]] (.fn (.func 96) [.ptr [0, 12, 32] 0]) (b64_22 l kn) (by kernel_rfl) rfl (by kernel_rfl)
          refine at_block ?_
          refine at_keepB [2, 3, 4, 5, 32] [(1000000, .any), (2, .ptr [1, 29] 0), (3, .ptr [0, 32] 0), (4, .ptr [3, 32] 0), (5, .ptr [4, 32] 0), (32, .fn (.func 96) [.ptr [0, 12, 32] 0])] (by kernel_rfl) ?_
          refine at_rf 96 [.ptr [0, 12, 32] 0] (.tup []) (b64_30 l kn) [(1000000, .any), (2, .ptr [1, 29] 0), (3, .ptr [0, 32] 0), (4, .ptr [3, 32] 0), (5, .ptr [4, 32] 0), (32, .fn (.func 96) [.ptr [0, 12, 32] 0])] 65 [33, 34] (fcode Tryd.f92 [1, 1, 1, 1, 1, 0]) (fcode Tryd.f92 [1, 1, 1, 1, 1, 1]) [2, 3, 4, 5, 32] [[0, 5, 15, 32], [13, 32], [0, 12, 32], [4, 32], [3, 32], [2, 32], [1, 32], [0, 32], [31], [30], [1, 29], [0, 29], [26], [2]] [(1000000, .ds [.ptr [13, 32] 0]), (2, .ptr [1, 29] 0), (3, .ptr [0, 32] 0), (4, .ptr [3, 32] 0), (5, .ptr [4, 32] 0), (32, .fn (.func 96) [.ptr [0, 12, 32] 0])] [(b64_15 l kn), ([13, 32], .dfr), (b64_6 l), ([4, 32], .row [.map [2, 32]] false), ([3, 32], .row [.map [1, 32]] false), ([2, 32], .smap (mB ((cntL (finM l kn) kn l).1))), ([1, 32], .smap (mB (finM l kn))), ([0, 32], .row [.yl [31]] false), b64_1, ([30], .dfr), (b64_5 kn), (b64_4 l), (b64_9 l kn), ([2], .smap (mB (idsM l)))] (by kernel_rfl) rfl (by kernel_rfl) ?_ (by kernel_rfl) (by kernel_rfl) rfl (by kernel_rfl) ?_
          ·refine call_in (fn := Tryd.f96) [] Tryd.func96 rfl (by kernel_rfl) rfl ?_
           change AT _ _ _ ⟨[(0, .yl [14, 32]), (1, .ptr [0, 12, 32] 0)], (b64_38 l kn), [15, 32], 0⟩
           refine at_B [0, 1, 3] [.std, .std, .eq (.i ((((l.map celR).length : Nat) : Int) - 1))] [(.i (wr ((((l.map celR).length : Nat) : Int) - 1)) : AV) = .i ((((l.map celR).length : Nat) : Int) - 1)] [(1000000, .any), (0, .yl [14, 32]), (1, .ptr [0, 12, 32] 0), (3, .i ((((l.map celR).length : Nat) : Int) - 1))] (b64_38 l kn) 4 (by kernel_rfl) ?_ ?_
           ·exact ⟨fit_av _ (by omega), trivial⟩
           refine at_block ?_
           refine at_pre (Gh.ownc [26] 0 13 _ false rfl rfl) ?_
           change AT _ _ _ ⟨[(1000000, .any), (0, .yl [14, 32]), (1, .ptr [0, 12, 32] 0), (3, .i ((((l.map celR).length : Nat) : Int) - 1))], [([4, 15, 32], .row [] false), b64_2, ([13, 32], .dfr), (b64_6 l), ([4, 32], .row [.map [2, 32]] false), ([3, 32], .row [.map [1, 32]] false), ([2, 32], .smap []), ([1, 32], .smap (mB (finM l kn))), ([0, 32], .row [.yl [31]] false), b64_1, ([30], .dfr), (b64_5 kn), (b64_4 l), ([26], .row [.sl [4, 15, 32] 13 0 0] false), ([2], .smap (mB (idsM l)))], [15, 32], 5⟩
           refine at_loopR (X := Nat × Mb × List Ru) 1 (fun ((k, m, o) : Nat × Mb × List Ru) => [(1000000, .any), (0, .yl [14, 32]), (1, .ptr [0, 12, 32] 0), (3, .i (((k : Nat) : Int) - 1))]) (fun ((k, m, o) : Nat × Mb × List Ru) => (b64_21 o l m kn)) (fun ((k, m, o) : Nat × Mb × List Ru) => k ≤ l.length ∧ (m, o) = cntL (finM l kn) kn (l.drop k)) (fun ((k, m, o) : Nat × Mb × List Ru) => k) ((l.map celR).length, [], []) ?_ ?_ ?_
           ·exact ⟨by simp, by rw [List.drop_of_length_le (by simp)]; rfl⟩
           ·exact rn_ok [([4, 15, 32], [0, 5, 15, 32]), ([14, 32], [14, 32]), ([13, 32], [13, 32]), ([0, 12, 32], [0, 12, 32]), ([4, 32], [4, 32]), ([3, 32], [3, 32]), ([2, 32], [2, 32]), ([1, 32], [1, 32]), ([0, 32], [0, 32]), ([31], [31]), ([30], [30]), ([1, 29], [1, 29]), ([0, 29], [0, 29]), ([26], [26]), ([2], [2])] [[1, 32], [2]] [0, 1, 3] (⟨clO_mB _, clO_mB _, trivial⟩) (by kernel_rfl)
           ·rintro ⟨k, m, o⟩ hinv
            dsimp only at hinv ⊢
            obtain ⟨hz1, hz2⟩ := hinv
            have hol := cntL_len (finM l kn) kn (l.drop k)
            rw [← hz2] at hol
            simp only [List.length_drop] at hol
            refine at_seq ?_
            refine at_B [0, 1, 3, 8] [] [] [(1000000, .any), (0, .yl [14, 32]), (1, .ptr [0, 12, 32] 0), (3, .i (((k : Nat) : Int) - 1)), (8, .b (decide ((0 : Int) ≤ ((k : Nat) : Int) - 1)))] (b64_21 o l m kn) 3 (by kernel_rfl) ?_ ?_
            ·exact trivial
            refine at_cond (b := (decide ((0 : Int) ≤ ((k : Nat) : Int) - 1))) rfl rfl (fun hc8_4 => ?_) (fun hc8_4 => ?_)
            ·have q8_4 := hc8_4
             (try simp only [brs] at q8_4)
             obtain ⟨j, hj⟩ : ∃ j, k = j + 1 := ⟨k - 1, by omega⟩
             refine at_skip ?_
             change AT _ _ _ _
             refine at_seq ?_
             refine at_block ?_
             cases hs_41 : ((((decide (kn < (l.getD j Ru.z).kn)) || ((decide ((l.getD j Ru.z).kd = (6 : Int))) && (mgetB (finM l kn) (l.getD j Ru.z).lf))) || (mgetB m (l.getD j Ru.z).id)))
             ·have qhs_41 := hs_41
              (try simp only [brs] at qhs_41)
              cases hs_42 : ((decide ((l.getD j Ru.z).kd = (6 : Int))))
              ·have qhs_42 := hs_42
               (try simp only [brs] at qhs_42)
               refine at_B [0, 1, 3, 18] [.std, .eq (.i ((j : Nat) : Int)), .std, .eq (.i ((j : Nat) : Int)), .eq (.tv (.ptr (celR (l.getD j Ru.z)))), .std, .retY (.b true) (b64_23 o l j m kn)] [(.i (((k : Nat) : Int) - 1) : AV) = .i ((j : Nat) : Int), (.i (((k : Nat) : Int) - 1) : AV) = .i ((j : Nat) : Int), (0 ≤ ((j : Nat) : Int) ∧ ((j : Nat) : Int) < ((((l.map celR) : List (List TV)).length : Nat) : Int)), (.tv (.ptr (rowAt (l.map celR) ((j : Nat) : Int))) : AV) = .tv (.ptr (celR (l.getD j Ru.z))), YldOK Tryd.prog [14, 32] [.i ((j : Nat) : Int), agR (l.getD j Ru.z)] (b64_21 o l m kn) [9, 5, 15, 32] (fun v1 H1 => v1 = (.b true) ∧ H1 = (b64_23 o l j m kn))] [(1000000, .any), (0, .yl [14, 32]), (1, .ptr [0, 12, 32] 0), (3, .i (((k : Nat) : Int) - 1)), (18, .b false)] (b64_23 o l j m kn) 11 (by kernel_rfl) ?_ ?_
               ·refine ⟨congrArg (fun n => AV.i n) (by omega), congrArg (fun n => AV.i n) (by omega), by (try simp only [lns] at *); omega, congrArg (fun c => AV.tv (.ptr c)) (row_R l ((j : Nat) : Int) (by (try simp only [brs, lns] at *); omega)), ?_, trivial⟩
                ·refine yld_in [(1000000, .any), (2, .ptr [1, 29] 0), (3, .ptr [0, 32] 0), (4, .ptr [3, 32] 0), (5, .ptr [4, 32] 0), (32, .fn (.func 96) [.ptr [0, 12, 32] 0])] 65 [33, 34] (fcode Tryd.f92 [1, 1, 1, 1, 1, 0]) (fcode Tryd.f92 [1, 1, 1, 1, 1, 1]) none (by kernel_rfl) (by kernel_rfl) (fun lp => ?_)
                 change AT _ (fcode Tryd.f92 [1, 1, 1, 1, 1, 0]) _ ⟨[(1000000, .any), (34, agR (l.getD j Ru.z)), (33, .i ((j : Nat) : Int)), (1000000, .any), (2, .ptr [1, 29] 0), (3, .ptr [0, 32] 0), (4, .ptr [3, 32] 0), (5, .ptr [4, 32] 0), (32, .fn (.func 96) [.ptr [0, 12, 32] 0])], (b64_21 o l m kn), [9, 5, 15, 32], 0⟩
                 refine at_Bl [2, 3, 4, 5, 9] [] [] [(1000000, .any), (2, .ptr [1, 29] 0), (3, .ptr [0, 32] 0), (4, .ptr [3, 32] 0), (5, .ptr [4, 32] 0), (9, .ptr [0, 9, 5, 15, 32] 0)] (b64_26 l j o m kn) 2 (by kernel_rfl) ?_ ?_
                 ·exact trivial
                 refine asg_end [(1000000, .any), (2, .ptr [1, 29] 0), (3, .ptr [0, 32] 0), (4, .ptr [3, 32] 0), (5, .ptr [4, 32] 0), (32, .fn (.func 96) [.ptr [0, 12, 32] 0])] 65 [33, 34] (fcode Tryd.f92 [1, 1, 1, 1, 1, 0]) none (by kernel_rfl) (H1 := (b64_20 l j o m kn)) (by kernel_rfl) ?_
                 refine at_block ?_
                 refine at_B [2, 3, 4, 5, 9, 10] [] [] [(1000000, .any), (2, .ptr [1, 29] 0), (3, .ptr [0, 32] 0), (4, .ptr [3, 32] 0), (5, .ptr [4, 32] 0), (9, .ptr [0, 9, 5, 15, 32] 0), (10, .b (decide ((l.getD j Ru.z).kd = (6 : Int))))] (b64_20 l j o m kn) 6 (by kernel_rfl) ?_ ?_
                 ·exact trivial
                 refine at_seq ?_
                 refine at_B [3, 5, 9, 10, 56] [.std, .std, .std, .std, .std, .std, .std, .std, .std, .std, .eq (.b (mgetB (finM l kn) (l.getD j Ru.z).lf)), .std, .std, .std, .std, .std, .std, .eq (.b (mgetB m (l.getD j Ru.z).id))] [((decide ((l.getD j Ru.z).kd = (6 : Int))) = true) → ((decide (kn < (l.getD j Ru.z).kn)) = false) → ((sget (mB (finM l kn)) (l.getD j Ru.z).lf).getD (.b false) : AV) = .b (mgetB (finM l kn) (l.getD j Ru.z).lf), (((decide (kn < (l.getD j Ru.z).kn)) || ((decide ((l.getD j Ru.z).kd = (6 : Int))) && (mgetB (finM l kn) (l.getD j Ru.z).lf))) = false) → ((sget (mB m) (l.getD j Ru.z).id).getD (.b false) : AV) = .b (mgetB m (l.getD j Ru.z).id)] [(1000000, .any), (3, .ptr [0, 32] 0), (5, .ptr [4, 32] 0), (9, .ptr [0, 9, 5, 15, 32] 0), (10, .b (decide ((l.getD j Ru.z).kd = (6 : Int)))), (56, .b (((decide (kn < (l.getD j Ru.z).kn)) || ((decide ((l.getD j Ru.z).kd = (6 : Int))) && (mgetB (finM l kn) (l.getD j Ru.z).lf))) || (mgetB m (l.getD j Ru.z).id)))] (b64_20 l j o m kn) 25 (by kernel_rfl) ?_ ?_
                 ·exact ⟨fun hg0 hg1 => mB_get (finM l kn) (l.getD j Ru.z).lf, fun hg0 => mB_get m (l.getD j Ru.z).id, trivial⟩
                 refine at_cond (b := (((decide (kn < (l.getD j Ru.z).kn)) || ((decide ((l.getD j Ru.z).kd = (6 : Int))) && (mgetB (finM l kn) (l.getD j Ru.z).lf))) || (mgetB m (l.getD j Ru.z).id))) rfl rfl (fun h => ?_) (fun h => ?_)
                 ·exact absurd (h.symm.trans hs_41) (by decide)
                 clear h
                 refine at_skip ?_
                 change AT _ _ _ _
                 refine at_seq ?_
                 refine at_B [3, 5, 9, 57] [] [] [(1000000, .any), (3, .ptr [0, 32] 0), (5, .ptr [4, 32] 0), (9, .ptr [0, 9, 5, 15, 32] 0), (57, .b (decide ((l.getD j Ru.z).kd = (6 : Int))))] (b64_20 l j o m kn) 26 (by kernel_rfl) ?_ ?_
                 ·exact trivial
                 refine at_cond (b := (decide ((l.getD j Ru.z).kd = (6 : Int)))) rfl rfl (fun h => ?_) (fun h => ?_)
                 ·exact absurd (h.symm.trans hs_42) (by decide)
                 clear h
                 refine at_skip ?_
                 change AT _ _ _ _
                 refine at_B [64] [.std, .std, .retY (.b true) (b64_25 o l j m kn)] [YldOK Tryd.prog [31] [agR (l.getD j Ru.z)] (b64_20 l j o m kn) [28, 9, 5, 15, 32] (fun v1 H1 => v1 = (.b true) ∧ H1 = (b64_25 o l j m kn))] [(1000000, .any), (64, .b false)] (b64_25 o l j m kn) 30 (by kernel_rfl) ?_ ?_
                 ·refine ⟨?_, trivial⟩
                  ·refine yld_in [(1000000, .any), (9, .ptr [26] 0), (42, .fn (.func 92) [.ptr [0, 29] 0, .ptr [1, 29] 0])] 51 [43] (fcode Tryd.f64 [1, 1, 1, 1, 1, 0, 1, 1, 0]) (fcode Tryd.f64 [1, 1, 1, 1, 1, 0, 1, 1, 1]) none (by kernel_rfl) (by kernel_rfl) (fun lp => ?_)
                   change AT _ (fcode Tryd.f64 [1, 1, 1, 1, 1, 0, 1, 1, 0]) _ ⟨[(1000000, .any), (43, agR (l.getD j Ru.z)), (1000000, .any), (9, .ptr [26] 0), (42, .fn (.func 92) [.ptr [0, 29] 0, .ptr [1, 29] 0])], (b64_20 l j o m kn), [28, 9, 5, 15, 32], 0⟩
                   refine at_Bl [9, 10] [] [] [(1000000, .any), (9, .ptr [26] 0), (10, .ptr [0, 28, 9, 5, 15, 32] 0)] [([0, 28, 9, 5, 15, 32], .row ((celR (l.getD j Ru.z)).map .tv) false), (b64_7 l j), (b64_10 o), b64_3, ([13, 32], .dfr), (b64_6 l), ([4, 32], .row [.map [2, 32]] false), ([3, 32], .row [.map [1, 32]] false), ([2, 32], .smap (mB m)), ([1, 32], .smap (mB (finM l kn))), ([0, 32], .row [.yl [31]] false), b64_1, ([30], .dfr), (b64_5 kn), (b64_4 l), (b64_8 o), ([2], .smap (mB (idsM l)))] 2 (by kernel_rfl) ?_ ?_
                   ·exact trivial
                   refine asg_end [(1000000, .any), (9, .ptr [26] 0), (42, .fn (.func 92) [.ptr [0, 29] 0, .ptr [1, 29] 0])] 51 [43] (fcode Tryd.f64 [1, 1, 1, 1, 1, 0, 1, 1, 0]) none (by kernel_rfl) (H1 := [([0, 28, 9, 5, 15, 32], .row ((celR (l.getD j Ru.z)).map .tv) false), (b64_7 l j), (b64_10 o), b64_3, ([13, 32], .dfr), (b64_6 l), ([4, 32], .row [.map [2, 32]] false), ([3, 32], .row [.map [1, 32]] false), ([2, 32], .smap (mB m)), ([1, 32], .smap (mB (finM l kn))), ([0, 32], .row [.yl [31]] false), b64_11, ([30], .dfr), (b64_5 kn), (b64_4 l), (b64_8 o), ([2], .smap (mB (idsM l)))]) (by kernel_rfl) ?_
                   refine at_block ?_
                   refine at_Bl [] [.std, .std, .eq (.tv (.sli 13 (([(l.getD j Ru.z)] : List _).map celR))), .eff (.sl [5, 28, 9, 5, 15, 32] 13 0 (o ++ [(l.getD j Ru.z)]).length) (.row (flat celR (o ++ [(l.getD j Ru.z)])) false)] [(.tv (.sli 13 [(celR (l.getD j Ru.z))]) : AV) = .tv (.sli 13 (([(l.getD j Ru.z)] : List _).map celR)), (13 = 13 ∧ 0 = 0 ∧ (flat celR o).length = o.length * 13 ∧ o.length + 1 ≤ 9223372036854775807 ∧ (o.length + 1) * 152 ≤ 140737488355328), (.sl [5, 28, 9, 5, 15, 32] 13 0 (o.length + 1) : AV) = .sl [5, 28, 9, 5, 15, 32] 13 0 (o ++ [(l.getD j Ru.z)]).length, (.row ((flat celR o) ++ (List.map AV.tv (List.flatten (([(l.getD j Ru.z)] : List _).map celR)))) false : AO) = .row (flat celR (o ++ [(l.getD j Ru.z)])) false] [(1000000, .any)] [(b64_16 o l j), ([0, 28, 9, 5, 15, 32], .row ((celR (l.getD j Ru.z)).map .tv) false), (b64_7 l j), b64_3, ([13, 32], .dfr), (b64_6 l), ([4, 32], .row [.map [2, 32]] false), ([3, 32], .row [.map [1, 32]] false), ([2, 32], .smap (mB m)), ([1, 32], .smap (mB (finM l kn))), ([0, 32], .row [.yl [31]] false), b64_11, ([30], .dfr), (b64_5 kn), (b64_4 l), (b64_13 o l j), ([2], .smap (mB (idsM l)))] 7 (by kernel_rfl) ?_ ?_
                   ·exact ⟨rfl, ⟨rfl, rfl, flat_len (sz := 13) (fun _ => rfl) _, by (try simp only [brs, lns] at *); omega, by (try simp only [brs, lns] at *); omega⟩, by simp, congrArg (AO.row · false) (flat_app (rfl)), trivial⟩
                   exact round_end (q := [28, 9, 5, 15, 32]) [[5, 28, 9, 5, 15, 32], [0, 9, 5, 15, 32], [14, 32], [13, 32], [0, 12, 32], [4, 32], [3, 32], [2, 32], [1, 32], [0, 32], [31], [30], [1, 29], [0, 29], [26], [2]] [(1000000, .any), (9, .ptr [26] 0), (42, .fn (.func 92) [.ptr [0, 29] 0, .ptr [1, 29] 0])] 51 [43] (fcode Tryd.f64 [1, 1, 1, 1, 1, 0, 1, 1, 0]) (fcode Tryd.f64 [1, 1, 1, 1, 1, 0, 1, 1, 1]) .busy none (by kernel_rfl) rfl (by kernel_rfl)
                 refine at_cond (b := false) rfl rfl (fun h => ?_) (fun h => ?_)
                 ·cases h
                 clear h
                 refine at_skip ?_
                 exact round_end (q := [9, 5, 15, 32]) [[5, 28, 9, 5, 15, 32], [14, 32], [13, 32], [0, 12, 32], [4, 32], [3, 32], [2, 32], [1, 32], [0, 32], [31], [30], [1, 29], [0, 29], [26], [2]] [(1000000, .any), (2, .ptr [1, 29] 0), (3, .ptr [0, 32] 0), (4, .ptr [3, 32] 0), (5, .ptr [4, 32] 0), (32, .fn (.func 96) [.ptr [0, 12, 32] 0])] 65 [33, 34] (fcode Tryd.f92 [1, 1, 1, 1, 1, 0]) (fcode Tryd.f92 [1, 1, 1, 1, 1, 1]) .busy none (by kernel_rfl) rfl (by kernel_rfl)
               refine at_cond (b := false) rfl rfl (fun h => ?_) (fun h => ?_)
               ·cases h
               clear h
               refine at_skip ?_
               change AT _ _ _ _
               refine at_Bl [0, 1, 3] [.std, .eq (.i (((j : Nat) : Int) - 1))] [(.i (wr ((((k : Nat) : Int) - 1) - 1)) : AV) = .i (((j : Nat) : Int) - 1)] [(1000000, .any), (0, .yl [14, 32]), (1, .ptr [0, 12, 32] 0), (3, .i (((j : Nat) : Int) - 1))] (b64_23 o l j m kn) 14 (by kernel_rfl) ?_ ?_
               ·exact ⟨(congrArg (fun n => AV.i (wr n)) (by omega)).trans (fit_av _ (by omega)), trivial⟩
               refine ⟨rfl, (j, m, (o ++ [(l.getD j Ru.z)])), ?_, ?_, ?_⟩
               ·(try dsimp only); omega
               ·(try dsimp only); exact ⟨by omega, by rw [cntL_step (finM l kn) kn l j (by omega), ← hj, ← hz2, stepC, show skipC (finM l kn) kn m (l.getD j Ru.z) = false from hs_41]; simp only [hs_42, cond_true, cond_false]⟩
               ·exact rn_ok [([5, 28, 9, 5, 15, 32], [0, 5, 15, 32]), ([14, 32], [14, 32]), ([13, 32], [13, 32]), ([0, 12, 32], [0, 12, 32]), ([4, 32], [4, 32]), ([3, 32], [3, 32]), ([2, 32], [2, 32]), ([1, 32], [1, 32]), ([0, 32], [0, 32]), ([31], [31]), ([30], [30]), ([1, 29], [1, 29]), ([0, 29], [0, 29]), ([26], [26]), ([2], [2])] [[5, 28, 9, 5, 15, 32], [2, 32], [1, 32], [2]] [0, 1, 3] (⟨clO_flat _ _ _, clO_mB _, clO_mB _, clO_mB _, trivial⟩) (by kernel_rfl)
              ·have qhs_42 := hs_42
               (try simp only [brs] at qhs_42)
               refine at_B [0, 1, 3, 18] [.std, .eq (.i ((j : Nat) : Int)), .std, .eq (.i ((j : Nat) : Int)), .eq (.tv (.ptr (celR (l.getD j Ru.z)))), .std, .retY (.b true) (b64_24 o l j m kn)] [(.i (((k : Nat) : Int) - 1) : AV) = .i ((j : Nat) : Int), (.i (((k : Nat) : Int) - 1) : AV) = .i ((j : Nat) : Int), (0 ≤ ((j : Nat) : Int) ∧ ((j : Nat) : Int) < ((((l.map celR) : List (List TV)).length : Nat) : Int)), (.tv (.ptr (rowAt (l.map celR) ((j : Nat) : Int))) : AV) = .tv (.ptr (celR (l.getD j Ru.z))), YldOK Tryd.prog [14, 32] [.i ((j : Nat) : Int), agR (l.getD j Ru.z)] (b64_21 o l m kn) [9, 5, 15, 32] (fun v1 H1 => v1 = (.b true) ∧ H1 = (b64_24 o l j m kn))] [(1000000, .any), (0, .yl [14, 32]), (1, .ptr [0, 12, 32] 0), (3, .i (((k : Nat) : Int) - 1)), (18, .b false)] (b64_24 o l j m kn) 11 (by kernel_rfl) ?_ ?_
               ·refine ⟨congrArg (fun n => AV.i n) (by omega), congrArg (fun n => AV.i n) (by omega), by (try simp only [lns] at *); omega, congrArg (fun c => AV.tv (.ptr c)) (row_R l ((j : Nat) : Int) (by (try simp only [brs, lns] at *); omega)), ?_, trivial⟩
                ·refine yld_in [(1000000, .any), (2, .ptr [1, 29] 0), (3, .ptr [0, 32] 0), (4, .ptr [3, 32] 0), (5, .ptr [4, 32] 0), (32, .fn (.func 96) [.ptr [0, 12, 32] 0])] 65 [33, 34] (fcode Tryd.f92 [1, 1, 1, 1, 1, 0]) (fcode Tryd.f92 [1, 1, 1, 1, 1, 1]) none (by kernel_rfl) (by kernel_rfl) (fun lp => ?_)
                 change AT _ (fcode Tryd.f92 [1, 1, 1, 1, 1, 0]) _ ⟨[(1000000, .any), (34, agR (l.getD j Ru.z)), (33, .i ((j : Nat) : Int)), (1000000, .any), (2, .ptr [1, 29] 0), (3, .ptr [0, 32] 0), (4, .ptr [3, 32] 0), (5, .ptr [4, 32] 0), (32, .fn (.func 96) [.ptr [0, 12, 32] 0])], (b64_21 o l m kn), [9, 5, 15, 32], 0⟩
                 refine at_Bl [2, 3, 4, 5, 9] [] [] [(1000000, .any), (2, .ptr [1, 29] 0), (3, .ptr [0, 32] 0), (4, .ptr [3, 32] 0), (5, .ptr [4, 32] 0), (9, .ptr [0, 9, 5, 15, 32] 0)] (b64_26 l j o m kn) 2 (by kernel_rfl) ?_ ?_
                 ·exact trivial
                 refine asg_end [(1000000, .any), (2, .ptr [1, 29] 0), (3, .ptr [0, 32] 0), (4, .ptr [3, 32] 0), (5, .ptr [4, 32] 0), (32, .fn (.func 96) [.ptr [0, 12, 32] 0])] 65 [33, 34] (fcode Tryd.f92 [1, 1, 1, 1, 1, 0]) none (by kernel_rfl) (H1 := (b64_20 l j o m kn)) (by kernel_rfl) ?_
                 refine at_block ?_
                 refine at_B [2, 3, 4, 5, 9, 10] [] [] [(1000000, .any), (2, .ptr [1, 29] 0), (3, .ptr [0, 32] 0), (4, .ptr [3, 32] 0), (5, .ptr [4, 32] 0), (9, .ptr [0, 9, 5, 15, 32] 0), (10, .b (decide ((l.getD j Ru.z).kd = (6 : Int))))] (b64_20 l j o m kn) 6 (by kernel_rfl) ?_ ?_
                 ·exact trivial
                 refine at_seq ?_
                 refine at_B [3, 5, 9, 10, 56] [.std, .std, .std, .std, .std, .std, .std, .std, .std, .std, .eq (.b (mgetB (finM l kn) (l.getD j Ru.z).lf)), .std, .std, .std, .std, .std, .std, .eq (.b (mgetB m (l.getD j Ru.z).id))] [((decide ((l.getD j Ru.z).kd = (6 : Int))) = true) → ((decide (kn < (l.getD j Ru.z).kn)) = false) → ((sget (mB (finM l kn)) (l.getD j Ru.z).lf).getD (.b false) : AV) = .b (mgetB (finM l kn) (l.getD j Ru.z).lf), (((decide (kn < (l.getD j Ru.z).kn)) || ((decide ((l.getD j Ru.z).kd = (6 : Int))) && (mgetB (finM l kn) (l.getD j Ru.z).lf))) = false) → ((sget (mB m) (l.getD j Ru.z).id).getD (.b false) : AV) = .b (mgetB m (l.getD j Ru.z).id)] [(1000000, .any), (3, .ptr [0, 32] 0), (5, .ptr [4, 32] 0), (9, .ptr [0, 9, 5, 15, 32] 0), (10, .b (decide ((l.getD j Ru.z).kd = (6 : Int)))), (56, .b (((decide (kn < (l.getD j Ru.z).kn)) || ((decide ((l.getD j Ru.z).kd = (6 : Int))) && (mgetB (finM l kn) (l.getD j Ru.z).lf))) || (mgetB m (l.getD j Ru.z).id)))] (b64_20 l j o m kn) 25 (by kernel_rfl) ?_ ?_
                 ·exact ⟨fun hg0 hg1 => mB_get (finM l kn) (l.getD j Ru.z).lf, fun hg0 => mB_get m (l.getD j Ru.z).id, trivial⟩
                 refine at_cond (b := (((decide (kn < (l.getD j Ru.z).kn)) || ((decide ((l.getD j Ru.z).kd = (6 : Int))) && (mgetB (finM l kn) (l.getD j Ru.z).lf))) || (mgetB m (l.getD j Ru.z).id))) rfl rfl (fun h => ?_) (fun h => ?_)
                 ·exact absurd (h.symm.trans hs_41) (by decide)
                 clear h
                 refine at_skip ?_
                 change AT _ _ _ _
                 refine at_seq ?_
                 refine at_B [3, 5, 9, 57] [] [] [(1000000, .any), (3, .ptr [0, 32] 0), (5, .ptr [4, 32] 0), (9, .ptr [0, 9, 5, 15, 32] 0), (57, .b (decide ((l.getD j Ru.z).kd = (6 : Int))))] (b64_20 l j o m kn) 26 (by kernel_rfl) ?_ ?_
                 ·exact trivial
                 refine at_cond (b := (decide ((l.getD j Ru.z).kd = (6 : Int)))) rfl rfl (fun h => ?_) (fun h => ?_)
                 rotate_left
                 ·exact absurd (h.symm.trans hs_42) (by decide)
                 clear h
                 refine at_Bl [3, 9] [.std, .std, .std, .eff (.tup []) (.smap (mB (mputB m (l.getD j Ru.z).lf true)))] [(.tup [] : AV) = .tup [], (.smap (sput (mB m) (l.getD j Ru.z).lf (.b true)) : AO) = .smap (mB (mputB m (l.getD j Ru.z).lf true))] [(1000000, .any), (3, .ptr [0, 32] 0), (9, .ptr [0, 9, 5, 15, 32] 0)] (b64_28 l j o m kn) 30 (by kernel_rfl) ?_ ?_
                 ·exact ⟨rfl, congrArg AO.smap (mB_put _ _ _), trivial⟩
                 change AT _ _ _ _
                 refine at_B [64] [.std, .std, .retY (.b true) (b64_27 o l j m kn)] [YldOK Tryd.prog [31] [agR (l.getD j Ru.z)] (b64_28 l j o m kn) [32, 9, 5, 15, 32] (fun v1 H1 => v1 = (.b true) ∧ H1 = (b64_27 o l j m kn))] [(1000000, .any), (64, .b false)] (b64_27 o l j m kn) 34 (by kernel_rfl) ?_ ?_
                 ·refine ⟨?_, trivial⟩
                  ·refine yld_in [(1000000, .any), (9, .ptr [26] 0), (42, .fn (.func 92) [.ptr [0, 29] 0, .ptr [1, 29] 0])] 51 [43] (fcode Tryd.f64 [1, 1, 1, 1, 1, 0, 1, 1, 0]) (fcode Tryd.f64 [1, 1, 1, 1, 1, 0, 1, 1, 1]) none (by kernel_rfl) (by kernel_rfl) (fun lp => ?_)
                   change AT _ (fcode Tryd.f64 [1, 1, 1, 1, 1, 0, 1, 1, 0]) _ ⟨[(1000000, .any), (43, agR (l.getD j Ru.z)), (1000000, .any), (9, .ptr [26] 0), (42, .fn (.func 92) [.ptr [0, 29] 0, .ptr [1, 29] 0])], (b64_28 l j o m kn), [32, 9, 5, 15, 32], 0⟩
                   refine at_Bl [9, 10] [] [] [(1000000, .any), (9, .ptr [26] 0), (10, .ptr [0, 32, 9, 5, 15, 32] 0)] [([0, 32, 9, 5, 15, 32], .row ((celR (l.getD j Ru.z)).map .tv) false), (b64_7 l j), (b64_10 o), b64_3, ([13, 32], .dfr), (b64_6 l), ([4, 32], .row [.map [2, 32]] false), ([3, 32], .row [.map [1, 32]] false), (b64_12 m l j), ([1, 32], .smap (mB (finM l kn))), ([0, 32], .row [.yl [31]] false), b64_1, ([30], .dfr), (b64_5 kn), (b64_4 l), (b64_8 o), ([2], .smap (mB (idsM l)))] 2 (by kernel_rfl) ?_ ?_
                   ·exact trivial
                   refine asg_end [(1000000, .any), (9, .ptr [26] 0), (42, .fn (.func 92) [.ptr [0, 29] 0, .ptr [1, 29] 0])] 51 [43] (fcode Tryd.f64 [1, 1, 1, 1, 1, 0, 1, 1, 0]) none (by kernel_rfl) (H1 := [([0, 32, 9, 5, 15, 32], .row ((celR (l.getD j Ru.z)).map .tv) false), (b64_7 l j), (b64_10 o), b64_3, ([13, 32], .dfr), (b64_6 l), ([4, 32], .row [.map [2, 32]] false), ([3, 32], .row [.map [1, 32]] false), (b64_12 m l j), ([1, 32], .smap (mB (finM l kn))), ([0, 32], .row [.yl [31]] false), b64_11, ([30], .dfr), (b64_5 kn), (b64_4 l), (b64_8 o), ([2], .smap (mB (idsM l)))]) (by kernel_rfl) ?_
                   refine at_block ?_
                   refine at_Bl [] [.std, .std, .eq (.tv (.sli 13 (([(l.getD j Ru.z)] : List _).map celR))), .eff (.sl [5, 32, 9, 5, 15, 32] 13 0 (o ++ [(l.getD j Ru.z)]).length) (.row (flat celR (o ++ [(l.getD j Ru.z)])) false)] [(.tv (.sli 13 [(celR (l.getD j Ru.z))]) : AV) = .tv (.sli 13 (([(l.getD j Ru.z)] : List _).map celR)), (13 = 13 ∧ 0 = 0 ∧ (flat celR o).length = o.length * 13 ∧ o.length + 1 ≤ 9223372036854775807 ∧ (o.length + 1) * 152 ≤ 140737488355328), (.sl [5, 32, 9, 5, 15, 32] 13 0 (o.length + 1) : AV) = .sl [5, 32, 9, 5, 15, 32] 13 0 (o ++ [(l.getD j Ru.z)]).length, (.row ((flat celR o) ++ (List.map AV.tv (List.flatten (([(l.getD j Ru.z)] : List _).map celR)))) false : AO) = .row (flat celR (o ++ [(l.getD j Ru.z)])) false] [(1000000, .any)] [(b64_17 o l j), ([0, 32, 9, 5, 15, 32], .row ((celR (l.getD j Ru.z)).map .tv) false), (b64_7 l j), b64_3, ([13, 32], .dfr), (b64_6 l), ([4, 32], .row [.map [2, 32]] false), ([3, 32], .row [.map [1, 32]] false), (b64_12 m l j), ([1, 32], .smap (mB (finM l kn))), ([0, 32], .row [.yl [31]] false), b64_11, ([30], .dfr), (b64_5 kn), (b64_4 l), (b64_14 o l j), ([2], .smap (mB (idsM l)))] 7 (by kernel_rfl) ?_ ?_
                   ·exact ⟨rfl, ⟨rfl, rfl, flat_len (sz := 13) (fun _ => rfl) _, by (try simp only [brs, lns] at *); omega, by (try simp only [brs, lns] at *); omega⟩, by simp, congrArg (AO.row · false) (flat_app (rfl)), trivial⟩
                   exact round_end (q := [32, 9, 5, 15, 32]) [[5, 32, 9, 5, 15, 32], [0, 9, 5, 15, 32], [14, 32], [13, 32], [0, 12, 32], [4, 32], [3, 32], [2, 32], [1, 32], [0, 32], [31], [30], [1, 29], [0, 29], [26], [2]] [(1000000, .any), (9, .ptr [26] 0), (42, .fn (.func 92) [.ptr [0, 29] 0, .ptr [1, 29] 0])] 51 [43] (fcode Tryd.f64 [1, 1, 1, 1, 1, 0, 1, 1, 0]) (fcode Tryd.f64 [1, 1, 1, 1, 1, 0, 1, 1, 1]) .busy none (by kernel_rfl) rfl (by kernel_rfl)
                 refine at_cond (b := false) rfl rfl (fun h => ?_) (fun h => ?_)
                 ·cases h
                 clear h
                 refine at_skip ?_
                 exact round_end (q := [9, 5, 15, 32]) [[5, 32, 9, 5, 15, 32], [14, 32], [13, 32], [0, 12, 32], [4, 32], [3, 32], [2, 32], [1, 32], [0, 32], [31], [30], [1, 29], [0, 29], [26], [2]] [(1000000, .any), (2, .ptr [1, 29] 0), (3, .ptr [0, 32] 0), (4, .ptr [3, 32] 0), (5, .ptr [4, 32] 0), (32, .fn (.func 96) [.ptr [0, 12, 32] 0])] 65 [33, 34] (fcode Tryd.f92 [1, 1, 1, 1, 1, 0]) (fcode Tryd.f92 [1, 1, 1, 1, 1, 1]) .busy none (by kernel_rfl) rfl (by kernel_rfl)
               refine at_cond (b := false) rfl rfl (fun h => ?_) (fun h => ?_)
               ·cases h
               clear h
               refine at_skip ?_
               change AT _ _ _ _
               refine at_Bl [0, 1, 3] [.std, .eq (.i (((j : Nat) : Int) - 1))] [(.i (wr ((((k : Nat) : Int) - 1) - 1)) : AV) = .i (((j : Nat) : Int) - 1)] [(1000000, .any), (0, .yl [14, 32]), (1, .ptr [0, 12, 32] 0), (3, .i (((j : Nat) : Int) - 1))] (b64_24 o l j m kn) 14 (by kernel_rfl) ?_ ?_
               ·exact ⟨(congrArg (fun n => AV.i (wr n)) (by omega)).trans (fit_av _ (by omega)), trivial⟩
               refine ⟨rfl, (j, (mputB m (l.getD j Ru.z).lf true), (o ++ [(l.getD j Ru.z)])), ?_, ?_, ?_⟩
               ·(try dsimp only); omega
               ·(try dsimp only); exact ⟨by omega, by rw [cntL_step (finM l kn) kn l j (by omega), ← hj, ← hz2, stepC, show skipC (finM l kn) kn m (l.getD j Ru.z) = false from hs_41]; simp only [hs_42, cond_true, cond_false]⟩
               ·exact rn_ok [([5, 32, 9, 5, 15, 32], [0, 5, 15, 32]), ([14, 32], [14, 32]), ([13, 32], [13, 32]), ([0, 12, 32], [0, 12, 32]), ([4, 32], [4, 32]), ([3, 32], [3, 32]), ([2, 32], [2, 32]), ([1, 32], [1, 32]), ([0, 32], [0, 32]), ([31], [31]), ([30], [30]), ([1, 29], [1, 29]), ([0, 29], [0, 29]), ([26], [26]), ([2], [2])] [[5, 32, 9, 5, 15, 32], [2, 32], [1, 32], [2]] [0, 1, 3] (⟨clO_flat _ _ _, clO_mB _, clO_mB _, clO_mB _, trivial⟩) (by kernel_rfl)
             ·have qhs_41 := hs_41
              (try simp only [brs] at qhs_41)
              refine at_B [0, 1, 3, 18] [.std, .eq (.i ((j : Nat) : Int)), .std, .eq (.i ((j : Nat) : Int)), .eq (.tv (.ptr (celR (l.getD j Ru.z)))), .std, .retY (.b true) (b64_21 o l m kn)] [(.i (((k : Nat) : Int) - 1) : AV) = .i ((j : Nat) : Int), (.i (((k : Nat) : Int) - 1) : AV) = .i ((j : Nat) : Int), (0 ≤ ((j : Nat) : Int) ∧ ((j : Nat) : Int) < ((((l.map celR) : List (List TV)).length : Nat) : Int)), (.tv (.ptr (rowAt (l.map celR) ((j : Nat) : Int))) : AV) = .tv (.ptr (celR (l.getD j Ru.z))), YldOK Tryd.prog [14, 32] [.i ((j : Nat) : Int), agR (l.getD j Ru.z)] (b64_21 o l m kn) [9, 5, 15, 32] (fun v1 H1 => v1 = (.b true) ∧ H1 = (b64_21 o l m kn))] [(1000000, .any), (0, .yl [14, 32]), (1, .ptr [0, 12, 32] 0), (3, .i (((k : Nat) : Int) - 1)), (18, .b false)] (b64_21 o l m kn) 11 (by kernel_rfl) ?_ ?_
              ·refine ⟨congrArg (fun n => AV.i n) (by omega), congrArg (fun n => AV.i n) (by omega), by (try simp only [lns] at *); omega, congrArg (fun c => AV.tv (.ptr c)) (row_R l ((j : Nat) : Int) (by (try simp only [brs, lns] at *); omega)), ?_, trivial⟩
               ·refine yld_in [(1000000, .any), (2, .ptr [1, 29] 0), (3, .ptr [0, 32] 0), (4, .ptr [3, 32] 0), (5, .ptr [4, 32] 0), (32, .fn (.func 96) [.ptr [0, 12, 32] 0])] 65 [33, 34] (fcode Tryd.f92 [1, 1, 1, 1, 1, 0]) (fcode Tryd.f92 [1, 1, 1, 1, 1, 1]) none (by kernel_rfl) (by kernel_rfl) (fun lp => ?_)
                change AT _ (fcode Tryd.f92 [1, 1, 1, 1, 1, 0]) _ ⟨[(1000000, .any), (34, agR (l.getD j Ru.z)), (33, .i ((j : Nat) : Int)), (1000000, .any), (2, .ptr [1, 29] 0), (3, .ptr [0, 32] 0), (4, .ptr [3, 32] 0), (5, .ptr [4, 32] 0), (32, .fn (.func 96) [.ptr [0, 12, 32] 0])], (b64_21 o l m kn), [9, 5, 15, 32], 0⟩
                refine at_Bl [2, 3, 4, 5, 9] [] [] [(1000000, .any), (2, .ptr [1, 29] 0), (3, .ptr [0, 32] 0), (4, .ptr [3, 32] 0), (5, .ptr [4, 32] 0), (9, .ptr [0, 9, 5, 15, 32] 0)] (b64_26 l j o m kn) 2 (by kernel_rfl) ?_ ?_
                ·exact trivial
                refine asg_end [(1000000, .any), (2, .ptr [1, 29] 0), (3, .ptr [0, 32] 0), (4, .ptr [3, 32] 0), (5, .ptr [4, 32] 0), (32, .fn (.func 96) [.ptr [0, 12, 32] 0])] 65 [33, 34] (fcode Tryd.f92 [1, 1, 1, 1, 1, 0]) none (by kernel_rfl) (H1 := (b64_20 l j o m kn)) (by kernel_rfl) ?_
                refine at_block ?_
                refine at_B [2, 3, 4, 5, 9, 10] [] [] [(1000000, .any), (2, .ptr [1, 29] 0), (3, .ptr [0, 32] 0), (4, .ptr [3, 32] 0), (5, .ptr [4, 32] 0), (9, .ptr [0, 9, 5, 15, 32] 0), (10, .b (decide ((l.getD j Ru.z).kd = (6 : Int))))] (b64_20 l j o m kn) 6 (by kernel_rfl) ?_ ?_
                ·exact trivial
                refine at_seq ?_
                refine at_B [3, 5, 9, 10, 56] [.std, .std, .std, .std, .std, .std, .std, .std, .std, .std, .eq (.b (mgetB (finM l kn) (l.getD j Ru.z).lf)), .std, .std, .std, .std, .std, .std, .eq (.b (mgetB m (l.getD j Ru.z).id))] [((decide ((l.getD j Ru.z).kd = (6 : Int))) = true) → ((decide (kn < (l.getD j Ru.z).kn)) = false) → ((sget (mB (finM l kn)) (l.getD j Ru.z).lf).getD (.b false) : AV) = .b (mgetB (finM l kn) (l.getD j Ru.z).lf), (((decide (kn < (l.getD j Ru.z).kn)) || ((decide ((l.getD j Ru.z).kd = (6 : Int))) && (mgetB (finM l kn) (l.getD j Ru.z).lf))) = false) → ((sget (mB m) (l.getD j Ru.z).id).getD (.b false) : AV) = .b (mgetB m (l.getD j Ru.z).id)] [(1000000, .any), (3, .ptr [0, 32] 0), (5, .ptr [4, 32] 0), (9, .ptr [0, 9, 5, 15, 32] 0), (10, .b (decide ((l.getD j Ru.z).kd = (6 : Int)))), (56, .b (((decide (kn < (l.getD j Ru.z).kn)) || ((decide ((l.getD j Ru.z).kd = (6 : Int))) && (mgetB (finM l kn) (l.getD j Ru.z).lf))) || (mgetB m (l.getD j Ru.z).id)))] (b64_20 l j o m kn) 25 (by kernel_rfl) ?_ ?_
                ·exact ⟨fun hg0 hg1 => mB_get (finM l kn) (l.getD j Ru.z).lf, fun hg0 => mB_get m (l.getD j Ru.z).id, trivial⟩
                refine at_cond (b := (((decide (kn < (l.getD j Ru.z).kn)) || ((decide ((l.getD j Ru.z).kd = (6 : Int))) && (mgetB (finM l kn) (l.getD j Ru.z).lf))) || (mgetB m (l.getD j Ru.z).id))) rfl rfl (fun h => ?_) (fun h => ?_)
                rotate_left
                ·exact absurd (h.symm.trans hs_41) (by decide)
                clear h
                refine at_exit ?_
                exact round_end (q := [9, 5, 15, 32]) [[0, 5, 15, 32], [14, 32], [13, 32], [0, 12, 32], [4, 32], [3, 32], [2, 32], [1, 32], [0, 32], [31], [30], [1, 29], [0, 29], [26], [2]] [(1000000, .any), (2, .ptr [1, 29] 0), (3, .ptr [0, 32] 0), (4, .ptr [3, 32] 0), (5, .ptr [4, 32] 0), (32, .fn (.func 96) [.ptr [0, 12, 32] 0])] 65 [33, 34] (fcode Tryd.f92 [1, 1, 1, 1, 1, 0]) (fcode Tryd.f92 [1, 1, 1, 1, 1, 1]) .busy none (by kernel_rfl) rfl (by kernel_rfl)
              refine at_cond (b := false) rfl rfl (fun h => ?_) (fun h => ?_)
              ·cases h
              clear h
              refine at_skip ?_
              change AT _ _ _ _
              refine at_Bl [0, 1, 3] [.std, .eq (.i (((j : Nat) : Int) - 1))] [(.i (wr ((((k : Nat) : Int) - 1) - 1)) : AV) = .i (((j : Nat) : Int) - 1)] [(1000000, .any), (0, .yl [14, 32]), (1, .ptr [0, 12, 32] 0), (3, .i (((j : Nat) : Int) - 1))] (b64_21 o l m kn) 14 (by kernel_rfl) ?_ ?_
              ·exact ⟨(congrArg (fun n => AV.i (wr n)) (by omega)).trans (fit_av _ (by omega)), trivial⟩
              refine ⟨rfl, (j, m, o), ?_, ?_, ?_⟩
              ·(try dsimp only); omega
              ·(try dsimp only); exact ⟨by omega, by rw [cntL_step (finM l kn) kn l j (by omega), ← hj, ← hz2, stepC, show skipC (finM l kn) kn m (l.getD j Ru.z) = true from hs_41]; rfl⟩
              ·exact rn_ok [([0, 5, 15, 32], [0, 5, 15, 32]), ([14, 32], [14, 32]), ([13, 32], [13, 32]), ([0, 12, 32], [0, 12, 32]), ([4, 32], [4, 32]), ([3, 32], [3, 32]), ([2, 32], [2, 32]), ([1, 32], [1, 32]), ([0, 32], [0, 32]), ([31], [31]), ([30], [30]), ([1, 29], [1, 29]), ([0, 29], [0, 29]), ([26], [26]), ([2], [2])] [[0, 5, 15, 32], [2, 32], [1, 32], [2]] [0, 1, 3] (⟨clO_flat _ _ _, clO_mB _, clO_mB _, clO_mB _, trivial⟩) (by kernel_rfl)
            ·have q8_4 := hc8_4
             (try simp only [brs] at q8_4)
             have hk0 : k = 0 := by omega
             rw [hk0, List.drop_zero] at hz2
             have hsub : m = (cntL (finM l kn) kn l).1 := congrArg Prod.fst hz2
             subst hsub
             have hsub : o = (cntL (finM l kn) kn l).2 := congrArg Prod.snd hz2
             subst hsub
             refine at_exit ?_
             exact fin_in (.inl rfl) [[0, 5, 15, 32], [14, 32], [13, 32], [0, 12, 32], [4, 32], [3, 32], [2, 32], [1, 32], [0, 32], [31], [30], [1, 29], [0, 29], [26], [2]] (.tup []) (b64_30 l kn) (by kernel_rfl) rfl (by kernel_rfl)
          exact fin_in (.inl rfl) [[0, 5, 15, 32], [31], [30], [1, 29], [0, 29], [26], [2]] (.tup []) [(b64_15 l kn), ([13, 32], .gone), (b64_6 l), ([4, 32], .row [.map [2, 32]] false), ([3, 32], .row [.map [1, 32]] false), ([2, 32], .smap (mB ((cntL (finM l kn) kn l).1))), ([1, 32], .smap (mB (finM l kn))), ([0, 32], .row [.yl [31]] false), b64_1, ([30], .dfr), (b64_5 kn), (b64_4 l), (b64_9 l kn), ([2], .smap (mB (idsM l)))] (by kernel_rfl) rfl (by kernel_rfl)
       change AT _ _ _ _
       refine at_B [9] [.std, .retH (.tup []) (b64_35 l kn)] [CallOK Tryd.prog 85 [.sl [0, 5, 15, 32] 13 0 ((cntL (finM l kn) kn l).2.length)] (b64_37 l kn) [34] (fun v1 H1 => v1 = (.tup []) ∧ H1 = (b64_35 l kn))] [(1000000, .ds [.ptr [30] 0]), (9, .ptr [26] 0)] (b64_35 l kn) 35 (by kernel_rfl) ?_ ?_
       ·refine ⟨?_, trivial⟩
        ·refine call_in (fn := Tryd.f85) [] Tryd.func85 rfl (by kernel_rfl) rfl ?_
         change AT _ _ _ ⟨[(0, .sl [0, 5, 15, 32] 13 0 ((cntL (finM l kn) kn l).2.length))], (b64_37 l kn), [34], 0⟩
         have hOL := cntL_len (finM l kn) kn l
         refine at_B [0, 2, 3] [.std, .std, .eq (.i ((((cntL (finM l kn) kn l).2.length : Nat) : Int) - 1))] [(.i (wr ((((cntL (finM l kn) kn l).2.length : Nat) : Int) - 1)) : AV) = .i ((((cntL (finM l kn) kn l).2.length : Nat) : Int) - 1)] [(1000000, .any), (0, .sl [0, 5, 15, 32] 13 0 ((cntL (finM l kn) kn l).2.length)), (2, .i 0), (3, .i ((((cntL (finM l kn) kn l).2.length : Nat) : Int) - 1))] (b64_37 l kn) 5 (by kernel_rfl) ?_ ?_
         ·exact ⟨fit_av _ (by omega), trivial⟩
         refine at_block ?_
         refine at_loopR (X := Nat × Nat × List Ru) 0 (fun ((i3, b, w) : Nat × Nat × List Ru) => [(1000000, .any), (0, .sl [0, 5, 15, 32] 13 0 ((cntL (finM l kn) kn l).2.length)), (2, .i ((i3 : Nat) : Int)), (3, .i (((b : Nat) : Int) - 1))]) (fun ((i3, b, w) : Nat × Nat × List Ru) => (b64_36 w kn l)) (fun ((i3, b, w) : Nat × Nat × List Ru) => i3 + b = (cntL (finM l kn) kn l).2.length ∧ RevI (cntL (finM l kn) kn l).2 i3 w) (fun ((i3, b, w) : Nat × Nat × List Ru) => b) (0, (cntL (finM l kn) kn l).2.length, (cntL (finM l kn) kn l).2) ?_ ?_ ?_
         ·exact ⟨by omega, rfl, fun p hp => by rw [if_neg (by omega)]⟩
         ·exact rn_ok [([0, 5, 15, 32], [0, 5, 15, 32]), ([30], [30]), ([1, 29], [1, 29]), ([0, 29], [0, 29]), ([26], [26]), ([2], [2])] [[0, 5, 15, 32], [2]] [0, 2, 3] (⟨clO_flat _ _ _, clO_mB _, trivial⟩) (by kernel_rfl)
         ·rintro ⟨i3, b, w⟩ hinv
          dsimp only at hinv ⊢
          obtain ⟨hw1, hw2⟩ := hinv
          have hwl := hw2.len
          refine at_seq ?_
          refine at_B [0, 2, 3, 9] [] [] [(1000000, .any), (0, .sl [0, 5, 15, 32] 13 0 ((cntL (finM l kn) kn l).2.length)), (2, .i ((i3 : Nat) : Int)), (3, .i (((b : Nat) : Int) - 1)), (9, .b (decide (((i3 : Nat) : Int) < ((b : Nat) : Int) - 1)))] (b64_36 w kn l) 3 (by kernel_rfl) ?_ ?_
          ·exact trivial
          refine at_cond (b := (decide (((i3 : Nat) : Int) < ((b : Nat) : Int) - 1))) rfl rfl (fun hc9_16 => ?_) (fun hc9_16 => ?_)
          ·have q9_16 := hc9_16
           (try simp only [brs] at q9_16)
           obtain ⟨c, hc⟩ : ∃ c, b = c + 1 := ⟨b - 1, by omega⟩
           refine at_skip ?_
           change AT _ _ _ _
           refine at_seq ?_
           refine at_block ?_
           refine at_Dl [none, none, none, none, none, none, none, some [[0, 5, 15, 32]], none, none, none, some [[0, 5, 15, 32]], none, some [[0, 5, 15, 32]], none, some [[0, 5, 15, 32]]] [0, 0, 0, 0, 0, 0, 48, 112, 0, 0, 768, 1792, 4083, 8179, 16383, 32767] [0, 2, 3] [.std, .std, .std, .eq (.i ((c : Nat) : Int)), .std, .eq (.i ((c : Nat) : Int)), .std, .res (.val (agR (w.getD c Ru.z)) .no) (agR (w.getD c Ru.z)) .no, .std, .std, .std, .res (.val (agR (w.getD i3 Ru.z)) .no) (agR (w.getD i3 Ru.z)) .no, .std, .res (.val (.tup []) (.upd [0, 5, 15, 32] (.row (flat celR (w.set i3 (w.getD c Ru.z))) false))) (.tup []) (.upd [0, 5, 15, 32] (.row (flat celR (w.set i3 (w.getD c Ru.z))) false)), .std, .res (.val (.tup []) (.upd [0, 5, 15, 32] (.row (flat celR ((w.set i3 (w.getD c Ru.z)).set c (w.getD i3 Ru.z))) false))) (.tup []) (.upd [0, 5, 15, 32] (.row (flat celR ((w.set i3 (w.getD c Ru.z)).set c (w.getD i3 Ru.z))) false))] [(.i (((b : Nat) : Int) - 1) : AV) = .i ((c : Nat) : Int), (.i (((b : Nat) : Int) - 1) : AV) = .i ((c : Nat) : Int), (0 ≤ ((c : Nat) : Int) ∧ ((c : Nat) : Int) < (((cntL (finM l kn) kn l).2.length : Nat) : Int)), evLoad Tryd.prog (b64_36 w kn l) 63 (.ptr [0, 5, 15, 32] ((0 + c) * 13)) = .val (agR (w.getD c Ru.z)) .no, (∃ q, (Res.val (agR (w.getD c Ru.z)) .no) = .need q (.val (agR (w.getD c Ru.z)) .no) ∧ q) ∨ (Res.val (agR (w.getD c Ru.z)) .no) = .val (agR (w.getD c Ru.z)) .no, (0 ≤ ((i3 : Nat) : Int) ∧ ((i3 : Nat) : Int) < (((cntL (finM l kn) kn l).2.length : Nat) : Int)), evLoad Tryd.prog (b64_36 w kn l) 63 (.ptr [0, 5, 15, 32] ((0 + i3) * 13)) = .val (agR (w.getD i3 Ru.z)) .no, (∃ q, (Res.val (agR (w.getD i3 Ru.z)) .no) = .need q (.val (agR (w.getD i3 Ru.z)) .no) ∧ q) ∨ (Res.val (agR (w.getD i3 Ru.z)) .no) = .val (agR (w.getD i3 Ru.z)) .no, (0 ≤ ((i3 : Nat) : Int) ∧ ((i3 : Nat) : Int) < (((cntL (finM l kn) kn l).2.length : Nat) : Int)), evStore Tryd.prog (b64_36 w kn l) 63 (.ptr [0, 5, 15, 32] ((0 + i3) * 13)) (agR (w.getD c Ru.z)) = .val (.tup []) (.upd [0, 5, 15, 32] (.row (flat celR (w.set i3 (w.getD c Ru.z))) false)), (∃ q, (Res.val (.tup []) (.upd [0, 5, 15, 32] (.row (flat celR (w.set i3 (w.getD c Ru.z))) false))) = .need q (.val (.tup []) (.upd [0, 5, 15, 32] (.row (flat celR (w.set i3 (w.getD c Ru.z))) false))) ∧ q) ∨ (Res.val (.tup []) (.upd [0, 5, 15, 32] (.row (flat celR (w.set i3 (w.getD c Ru.z))) false))) = .val (.tup []) (.upd [0, 5, 15, 32] (.row (flat celR (w.set i3 (w.getD c Ru.z))) false)), (0 ≤ ((c : Nat) : Int) ∧ ((c : Nat) : Int) < (((cntL (finM l kn) kn l).2.length : Nat) : Int)), evStore Tryd.prog [([0, 5, 15, 32], .row (flat celR (w.set i3 (w.getD c Ru.z))) false), ([30], .dfr), (b64_5 kn), (b64_4 l), (b64_9 l kn), ([2], .smap (mB (idsM l)))] 63 (.ptr [0, 5, 15, 32] ((0 + c) * 13)) (agR (w.getD i3 Ru.z)) = .val (.tup []) (.upd [0, 5, 15, 32] (.row (flat celR ((w.set i3 (w.getD c Ru.z)).set c (w.getD i3 Ru.z))) false)), (∃ q, (Res.val (.tup []) (.upd [0, 5, 15, 32] (.row (flat celR ((w.set i3 (w.getD c Ru.z)).set c (w.getD i3 Ru.z))) false))) = .need q (.val (.tup []) (.upd [0, 5, 15, 32] (.row (flat celR ((w.set i3 (w.getD c Ru.z)).set c (w.getD i3 Ru.z))) false))) ∧ q) ∨ (Res.val (.tup []) (.upd [0, 5, 15, 32] (.row (flat celR ((w.set i3 (w.getD c Ru.z)).set c (w.getD i3 Ru.z))) false))) = .val (.tup []) (.upd [0, 5, 15, 32] (.row (flat celR ((w.set i3 (w.getD c Ru.z)).set c (w.getD i3 Ru.z))) false))] [(1000000, .any), (0, .sl [0, 5, 15, 32] 13 0 ((cntL (finM l kn) kn l).2.length)), (2, .i ((i3 : Nat) : Int)), (3, .i (((b : Nat) : Int) - 1))] [([0, 5, 15, 32], .row (flat celR ((w.set i3 (w.getD c Ru.z)).set c (w.getD i3 Ru.z))) false), ([30], .dfr), (b64_5 kn), (b64_4 l), (b64_9 l kn), ([2], .smap (mB (idsM l)))] 19 (by kernel_rfl) ?_ ?_
           ·exact ⟨congrArg (fun n => AV.i n) (by omega), congrArg (fun n => AV.i n) (by omega), by (try simp only [lns] at *); omega, evLoad_flat (enc := celR) (sz := 13) (l := w) (i := c) (d := Ru.z) (by kernel_rfl) (by kernel_rfl) rfl (fun _ => rfl) (by (try simp only [brs, lns] at *); omega), .inr rfl, by (try simp only [lns] at *); omega, evLoad_flat (enc := celR) (sz := 13) (l := w) (i := i3) (d := Ru.z) (by kernel_rfl) (by kernel_rfl) rfl (fun _ => rfl) (by (try simp only [brs, lns] at *); omega), .inr rfl, by (try simp only [lns] at *); omega, evStore_flat (enc := celR) (sz := 13) (l := w) (i := i3) (a := (w.getD c Ru.z)) (by kernel_rfl) rfl (fun _ => rfl) (fun _ => rfl) (by (try simp only [brs, lns] at *); omega), .inr rfl, by (try simp only [lns] at *); omega, evStore_flat (enc := celR) (sz := 13) (l := (w.set i3 (w.getD c Ru.z))) (i := c) (a := (w.getD i3 Ru.z)) (by kernel_rfl) rfl (fun _ => rfl) (fun _ => rfl) (by (try simp only [brs, lns] at *); omega), .inr rfl, trivial⟩
           change AT _ _ _ _
           refine at_Bl [0, 2, 3] [.std, .eq (.i ((i3 + 1 : Nat) : Int)), .std, .eq (.i (((c : Nat) : Int) - 1))] [(.i (wr (((i3 : Nat) : Int) + 1)) : AV) = .i ((i3 + 1 : Nat) : Int), (.i (wr ((((b : Nat) : Int) - 1) - 1)) : AV) = .i (((c : Nat) : Int) - 1)] [(1000000, .any), (0, .sl [0, 5, 15, 32] 13 0 ((cntL (finM l kn) kn l).2.length)), (2, .i ((i3 + 1 : Nat) : Int)), (3, .i (((c : Nat) : Int) - 1))] [([0, 5, 15, 32], .row (flat celR ((w.set i3 (w.getD c Ru.z)).set c (w.getD i3 Ru.z))) false), ([30], .dfr), (b64_5 kn), (b64_4 l), (b64_9 l kn), ([2], .smap (mB (idsM l)))] 25 (by kernel_rfl) ?_ ?_
           ·exact ⟨succ_av i3 (by (try simp only [lns] at *); omega), (congrArg (fun n => AV.i (wr n)) (by omega)).trans (fit_av _ (by omega)), trivial⟩
           refine ⟨rfl, (i3 + 1, c, ((w.set i3 (w.getD c Ru.z)).set c (w.getD i3 Ru.z))), ?_, ?_, ?_⟩
           ·(try dsimp only); omega
           ·(try dsimp only); exact ⟨by omega, hw2.step (by omega) (by omega)⟩
           ·exact rn_ok [([0, 5, 15, 32], [0, 5, 15, 32]), ([30], [30]), ([1, 29], [1, 29]), ([0, 29], [0, 29]), ([26], [26]), ([2], [2])] [[0, 5, 15, 32], [2]] [0, 2, 3] (⟨clO_flat _ _ _, clO_mB _, trivial⟩) (by kernel_rfl)
          ·have q9_16 := hc9_16
           (try simp only [brs] at q9_16)
           have hsub : w = ((cntL (finM l kn) kn l).2.reverse) := hw2.fin (by omega)
           subst hsub
           refine at_exit ?_
           exact fin_in (.inl rfl) [[0, 5, 15, 32], [30], [1, 29], [0, 29], [26], [2]] (.tup []) (b64_35 l kn) (by kernel_rfl) rfl (by kernel_rfl)
       refine at_B [4, 5] [] [] [(1000000, .ds [.ptr [30] 0]), (4, .sl [0, 5, 15, 32] 13 0 ((cntL (finM l kn) kn l).2.length)), (5, .i 0)] (b64_35 l kn) 38 (by kernel_rfl) ?_ ?_
       ·exact trivial
       refine at_ret ?_
       refine fin0 (.inr rfl) (.tup [.sl [0, 5, 15, 32] 13 0 ((cntL (finM l kn) kn l).2.length), .i 0]) [(b64_18 l kn), ([30], .gone), (b64_5 kn), (b64_4 l), (b64_9 l kn), ([2], .smap (mB (idsM l)))] (.tup [.tv (.sli 13 (((cntL (finM l kn) kn l).2.reverse).map celR)), .i 0]) (by kernel_rfl) (frzR_tup (frzs_cons (frz_flat2 (enc := celR) (l := ((cntL (finM l kn) kn l).2.reverse)) (sz := 13) rfl (fun _ => rfl) (by decide) (by rw [List.length_reverse])) (frzs_cons rfl frzs_nil))) ?_
       refine Le.of_eq ?_
       simp only [countP, hc22, cond_false]
       rw [show decide ((200 : Int) < (l.length : Int)) = false by simpa using hc27, hc31, show decide ((idsM l).length < l.length) = false by simpa [mB_len] using hc34]; rfl
end Go.Proofs.YtphmhelkojdlaaaDoor
namespace Go.Proofs.YtphmhelkojdlaaaDoor
open Go.RowKit
set_option linter.unusedSimpArgs false
set_option linter.unusedVariables false
theorem pred_av (i : Nat) (h : 0 < i) (h2 : i < 9223372036854775807) : AV.i (wr ((i : Int) - 1)) = .i ((i - 1 : Nat) : Int) := by
 rw [wr_fit _ (by omega)]; congr 2; omega
/-- Something is out of order at place i. -/
def unordAt (l : List Sn) (i : Nat) : Bool := ((!decide ((l.getD i Sn.z).b = (-1 : Int))) && decide ((l.getD i Sn.z).b ≤ (l.getD i Sn.z).a)) || (decide ((0 : Int) < ((i : Nat) : Int)) && (decide ((l.getD (i - 1) Sn.z).b = (-1 : Int)) || decide ((l.getD i Sn.z).a < (l.getD (i - 1) Sn.z).b)))
def orderedB (l : List Sn) : Bool := (List.range l.length).all fun i => !unordAt l i
theorem short_len {l : List Sn} {n : Int} (h : shortS l n = true) : (l.length : Int) ≤ n := by
 simp only [shortS, Bool.and_eq_true, decide_eq_true_eq] at h; exact h.1
end Go.Proofs.YtphmhelkojdlaaaDoor
namespace Go.Proofs.YtphmhelkojdlaaaDoor
open Go.RowKit
set_option maxRecDepth 10000
set_option linter.unusedSimpArgs false
set_option linter.unusedVariables false
theorem c39 (l : (List Sn))  : PureCall Tryd.prog 39 [.tv (.sli 7 (l.map celS))] (.b (orderedB l)) := by
 refine walk0 (fn := Tryd.f39) [.tmp 2] Tryd.func39 rfl (by kernel_rfl) rfl (by kernel_rfl) (by kernel_rfl) ?_
 change AT _ _ _ ⟨[(0, .tv (.sli 7 (l.map celS)))], [], [], 0⟩
 refine at_len 0 rfl (fun hlen => ?_)
 refine at_B [0] [] [] [(1000000, .any), (0, .tv (.sli 7 (l.map celS)))] [] 1 (by kernel_rfl) ?_ ?_
 ·exact trivial
 refine at_seq ?_
 refine at_B [0, 3] [] [] [(1000000, .any), (0, .tv (.sli 7 (l.map celS))), (3, .i 0)] [] 2 (by kernel_rfl) ?_ ?_
 ·exact trivial
 refine at_block ?_
 refine at_loopR (X := Nat) 0 (fun (i : Nat) => [(1000000, .any), (0, .tv (.sli 7 (l.map celS))), (3, .i ((i : Nat) : Int))]) (fun (i : Nat) => []) (fun (i : Nat) => i ≤ l.length ∧ ∀ j, j < i → unordAt l j = false) (fun (i : Nat) => l.length - i) 0 ?_ ?_ ?_
 ·exact ⟨Nat.zero_le _, fun j hj => absurd hj (Nat.not_lt_zero j)⟩
 ·exact rn_ok [] [] [0, 3] (trivial) (by kernel_rfl)
 ·intro i hinv
  obtain ⟨hx1, hx2⟩ := hinv
  refine at_seq ?_
  refine at_B [0, 3, 7] [] [] [(1000000, .any), (0, .tv (.sli 7 (l.map celS))), (3, .i ((i : Nat) : Int)), (7, .b (decide (((i : Nat) : Int) < (((l.map celS).length : Nat) : Int))))] [] 4 (by kernel_rfl) ?_ ?_
  ·exact trivial
  refine at_cond (b := (decide (((i : Nat) : Int) < (((l.map celS).length : Nat) : Int)))) rfl rfl (fun hc7 => ?_) (fun hc7 => ?_)
  ·have q7 := hc7
   (try simp only [brs] at q7)
   refine at_skip ?_
   change AT _ _ _ _
   refine at_seq ?_
   refine at_block ?_
   refine at_D [none, none, none, none, some [], none, none, none, none, none, none, some [], none, none, none, none, some [], none, none, none, none, none, none, none, none, none, none, none, some [], none, none, none, none, none, none, none, some [], none, none, none, none, some []] [0, 0, 3, 7, 15, 31, 63, 127, 127, 511, 1023, 2047, 127, 127, 12415, 28799, 61567, 131071, 262143, 524287, 1048575, 2097151, 4194303, 8388607, 8388607, 25165823, 67108863, 134217727, 268435455, 536870911, 1073741823, 2147483647, 2147483647, 6442450943, 17179869183, 34359738367, 68719476735, 2147483647, 2147483647, 414464344063, 964220157951, 2063731785727, 4398046511103, 8796093022207, 17592186044415, 35184372088831] [0, 3, 55] [.std, .std, .eq (.tv (.ptr (celS (l.getD i Sn.z)))), .std, .std, .std, .std, .std, .std, .eq (.tv (.ptr (celS (l.getD i Sn.z)))), .std, .std, .std, .std, .eq (.tv (.ptr (celS (l.getD i Sn.z)))), .std, .std, .std, .std, .std, .std, .std, .std, .std, .std, .eq (.i ((i - 1 : Nat) : Int)), .eq (.tv (.ptr (celS (l.getD (i - 1) Sn.z)))), .std, .std, .std, .std, .std, .std, .eq (.i ((i - 1 : Nat) : Int)), .eq (.tv (.ptr (celS (l.getD (i - 1) Sn.z)))), .std, .std, .std, .std, .eq (.tv (.ptr (celS (l.getD i Sn.z))))] [(0 ≤ ((i : Nat) : Int) ∧ ((i : Nat) : Int) < ((((l.map celS) : List (List TV)).length : Nat) : Int)), (.tv (.ptr (rowAt (l.map celS) ((i : Nat) : Int))) : AV) = .tv (.ptr (celS (l.getD i Sn.z))), ((!decide ((l.getD i Sn.z).b = (-1))) = true) → (0 ≤ ((i : Nat) : Int) ∧ ((i : Nat) : Int) < ((((l.map celS) : List (List TV)).length : Nat) : Int)), ((!decide ((l.getD i Sn.z).b = (-1))) = true) → (.tv (.ptr (rowAt (l.map celS) ((i : Nat) : Int))) : AV) = .tv (.ptr (celS (l.getD i Sn.z))), ((!decide ((l.getD i Sn.z).b = (-1))) = true) → (0 ≤ ((i : Nat) : Int) ∧ ((i : Nat) : Int) < ((((l.map celS) : List (List TV)).length : Nat) : Int)), ((!decide ((l.getD i Sn.z).b = (-1))) = true) → (.tv (.ptr (rowAt (l.map celS) ((i : Nat) : Int))) : AV) = .tv (.ptr (celS (l.getD i Sn.z))), ((decide ((0 : Int) < ((i : Nat) : Int))) = true) → (((!decide ((l.getD i Sn.z).b = (-1))) && (decide ((l.getD i Sn.z).b ≤ (l.getD i Sn.z).a))) = false) → (.i (wr (((i : Nat) : Int) - 1)) : AV) = .i ((i - 1 : Nat) : Int), ((decide ((0 : Int) < ((i : Nat) : Int))) = true) → (((!decide ((l.getD i Sn.z).b = (-1))) && (decide ((l.getD i Sn.z).b ≤ (l.getD i Sn.z).a))) = false) → (0 ≤ ((i - 1 : Nat) : Int) ∧ ((i - 1 : Nat) : Int) < ((((l.map celS) : List (List TV)).length : Nat) : Int)), ((decide ((0 : Int) < ((i : Nat) : Int))) = true) → (((!decide ((l.getD i Sn.z).b = (-1))) && (decide ((l.getD i Sn.z).b ≤ (l.getD i Sn.z).a))) = false) → (.tv (.ptr (rowAt (l.map celS) ((i - 1 : Nat) : Int))) : AV) = .tv (.ptr (celS (l.getD (i - 1) Sn.z))), ((decide ((l.getD (i - 1) Sn.z).b = (-1))) = false) → ((decide ((0 : Int) < ((i : Nat) : Int))) = true) → (((!decide ((l.getD i Sn.z).b = (-1))) && (decide ((l.getD i Sn.z).b ≤ (l.getD i Sn.z).a))) = false) → (.i (wr (((i : Nat) : Int) - 1)) : AV) = .i ((i - 1 : Nat) : Int), ((decide ((l.getD (i - 1) Sn.z).b = (-1))) = false) → ((decide ((0 : Int) < ((i : Nat) : Int))) = true) → (((!decide ((l.getD i Sn.z).b = (-1))) && (decide ((l.getD i Sn.z).b ≤ (l.getD i Sn.z).a))) = false) → (0 ≤ ((i - 1 : Nat) : Int) ∧ ((i - 1 : Nat) : Int) < ((((l.map celS) : List (List TV)).length : Nat) : Int)), ((decide ((l.getD (i - 1) Sn.z).b = (-1))) = false) → ((decide ((0 : Int) < ((i : Nat) : Int))) = true) → (((!decide ((l.getD i Sn.z).b = (-1))) && (decide ((l.getD i Sn.z).b ≤ (l.getD i Sn.z).a))) = false) → (.tv (.ptr (rowAt (l.map celS) ((i - 1 : Nat) : Int))) : AV) = .tv (.ptr (celS (l.getD (i - 1) Sn.z))), ((decide ((l.getD (i - 1) Sn.z).b = (-1))) = false) → ((decide ((0 : Int) < ((i : Nat) : Int))) = true) → (((!decide ((l.getD i Sn.z).b = (-1))) && (decide ((l.getD i Sn.z).b ≤ (l.getD i Sn.z).a))) = false) → (0 ≤ ((i : Nat) : Int) ∧ ((i : Nat) : Int) < ((((l.map celS) : List (List TV)).length : Nat) : Int)), ((decide ((l.getD (i - 1) Sn.z).b = (-1))) = false) → ((decide ((0 : Int) < ((i : Nat) : Int))) = true) → (((!decide ((l.getD i Sn.z).b = (-1))) && (decide ((l.getD i Sn.z).b ≤ (l.getD i Sn.z).a))) = false) → (.tv (.ptr (rowAt (l.map celS) ((i : Nat) : Int))) : AV) = .tv (.ptr (celS (l.getD i Sn.z)))] [(1000000, .any), (0, .tv (.sli 7 (l.map celS))), (3, .i ((i : Nat) : Int)), (55, .b (((!decide ((l.getD i Sn.z).b = (-1))) && (decide ((l.getD i Sn.z).b ≤ (l.getD i Sn.z).a))) || ((decide ((0 : Int) < ((i : Nat) : Int))) && ((decide ((l.getD (i - 1) Sn.z).b = (-1))) || (decide ((l.getD i Sn.z).a < (l.getD (i - 1) Sn.z).b))))))] [] 50 (by kernel_rfl) ?_ ?_
   ·exact ⟨by (try simp only [lns] at *); omega, congrArg (fun c => AV.tv (.ptr c)) (row_S l ((i : Nat) : Int) (by (try simp only [brs, lns] at *); omega)), fun hg0 => by (try simp only [brs, lns] at *); omega, fun hg0 => congrArg (fun c => AV.tv (.ptr c)) (row_S l ((i : Nat) : Int) (by (try simp only [brs, lns] at *); omega)), fun hg0 => by (try simp only [brs, lns] at *); omega, fun hg0 => congrArg (fun c => AV.tv (.ptr c)) (row_S l ((i : Nat) : Int) (by (try simp only [brs, lns] at *); omega)), fun hg0 hg1 => pred_av i (by (try simp only [List.length_map, Bool.and_eq_true, Bool.or_eq_true, Bool.not_eq_true', decide_eq_true_eq, decide_eq_false_iff_not, Bool.and_eq_false_iff, Bool.or_eq_false_iff, Bool.not_eq_false'] at *); omega) (by (try simp only [List.length_map, Bool.and_eq_true, Bool.or_eq_true, Bool.not_eq_true', decide_eq_true_eq, decide_eq_false_iff_not, Bool.and_eq_false_iff, Bool.or_eq_false_iff, Bool.not_eq_false'] at *); omega), fun hg0 hg1 => by (try simp only [brs, lns] at *); omega, fun hg0 hg1 => congrArg (fun c => AV.tv (.ptr c)) (row_S l ((i - 1 : Nat) : Int) (by (try simp only [brs, lns] at *); omega)), fun hg0 hg1 hg2 => pred_av i (by (try simp only [List.length_map, Bool.and_eq_true, Bool.or_eq_true, Bool.not_eq_true', decide_eq_true_eq, decide_eq_false_iff_not, Bool.and_eq_false_iff, Bool.or_eq_false_iff, Bool.not_eq_false'] at *); omega) (by (try simp only [List.length_map, Bool.and_eq_true, Bool.or_eq_true, Bool.not_eq_true', decide_eq_true_eq, decide_eq_false_iff_not, Bool.and_eq_false_iff, Bool.or_eq_false_iff, Bool.not_eq_false'] at *); omega), fun hg0 hg1 hg2 => by (try simp only [brs, lns] at *); omega, fun hg0 hg1 hg2 => congrArg (fun c => AV.tv (.ptr c)) (row_S l ((i - 1 : Nat) : Int) (by (try simp only [brs, lns] at *); omega)), fun hg0 hg1 hg2 => by (try simp only [brs, lns] at *); omega, fun hg0 hg1 hg2 => congrArg (fun c => AV.tv (.ptr c)) (row_S l ((i : Nat) : Int) (by (try simp only [brs, lns] at *); omega)), trivial⟩
   refine at_cond (b := (((!decide ((l.getD i Sn.z).b = (-1))) && (decide ((l.getD i Sn.z).b ≤ (l.getD i Sn.z).a))) || ((decide ((0 : Int) < ((i : Nat) : Int))) && ((decide ((l.getD (i - 1) Sn.z).b = (-1))) || (decide ((l.getD i Sn.z).a < (l.getD (i - 1) Sn.z).b)))))) rfl rfl (fun hc55 => ?_) (fun hc55 => ?_)
   ·have q55 := hc55
    (try simp only [brs] at q55)
    refine at_B [2] [] [] [(1000000, .any), (2, .b false)] [] 51 (by kernel_rfl) ?_ ?_
    ·exact trivial
    refine at_ret ?_
    refine fin0 (.inr rfl) (.b false) [] (.b false) (H2 := []) (by kernel_rfl) (by kernel_rfl) ?_
    refine Le.of_eq ?_
    rw [orderedB, rall_no (by omega) hc55]
   ·have q55 := hc55
    (try simp only [brs] at q55)
    refine at_skip ?_
    change AT _ _ _ _
    refine at_Bl [0, 3] [.std, .eq (.i ((i + 1 : Nat) : Int))] [(.i (wr (((i : Nat) : Int) + 1)) : AV) = .i ((i + 1 : Nat) : Int)] [(1000000, .any), (0, .tv (.sli 7 (l.map celS))), (3, .i ((i + 1 : Nat) : Int))] [] 53 (by kernel_rfl) ?_ ?_
    ·exact ⟨succ_av i (by (try simp only [lns] at *); omega), trivial⟩
    refine ⟨rfl, (i + 1), ?_, ?_, ?_⟩
    ·(try dsimp only); omega
    ·exact ⟨by omega, fun j hj => (if e : j = i then e ▸ hc55 else hx2 j (by omega))⟩
    ·exact rn_ok [] [] [0, 3] (trivial) (by kernel_rfl)
  ·have q7 := hc7
   (try simp only [brs] at q7)
   refine at_exit ?_
   change AT _ _ _ _
   refine at_B [2] [] [] [(1000000, .any), (2, .b true)] [] 4 (by kernel_rfl) ?_ ?_
   ·exact trivial
   refine at_ret ?_
   refine fin0 (.inr rfl) (.b true) [] (.b true) (H2 := []) (by kernel_rfl) (by kernel_rfl) ?_
   refine Le.of_eq ?_
   rw [orderedB, rall_yes (by omega) hx2]
abbrev b36_l1 : Fm := (Fm.mk 3 ⟨#[105, 110, 99, 111, 109, 101]⟩ 3 3 [])
def headB  : Bool := bif ((((!decide ((countP ([(Ru.mk ⟨#[97]⟩ ⟨#[112]⟩ 1 0 0 (Fm.mk 0 ⟨#[]⟩ 0 0 []) 0 false ⟨#[]⟩), (liftR ⟨#[98]⟩ ⟨#[97]⟩), (liftR ⟨#[99]⟩ ⟨#[98]⟩)]) 0).2 = (0 : Int))) || (!decide ((countP ([(Ru.mk ⟨#[97]⟩ ⟨#[112]⟩ 1 0 0 (Fm.mk 0 ⟨#[]⟩ 0 0 []) 0 true ⟨#[]⟩), (liftR ⟨#[98]⟩ ⟨#[97]⟩)]) 0).2 = (0 : Int)))) || (!decide ((((((countP ([(Ru.mk ⟨#[97]⟩ ⟨#[112]⟩ 1 0 0 (Fm.mk 0 ⟨#[]⟩ 0 0 []) 0 false ⟨#[]⟩), (liftR ⟨#[98]⟩ ⟨#[97]⟩), (liftR ⟨#[99]⟩ ⟨#[98]⟩)]) 0).1).map celR).length : Nat) : Int) = (2 : Int)))) || (!decide ((((((countP ([(Ru.mk ⟨#[97]⟩ ⟨#[112]⟩ 1 0 0 (Fm.mk 0 ⟨#[]⟩ 0 0 []) 0 true ⟨#[]⟩), (liftR ⟨#[98]⟩ ⟨#[97]⟩)]) 0).1).map celR).length : Nat) : Int) = (1 : Int)))) then (false) else ((((((((((all2 sameS Sn.z (applyP ([(Sn.mk 10 30 yesF)]) (Ru.mk ⟨#[]⟩ ⟨#[]⟩ 4 15 20 (Fm.mk 0 ⟨#[]⟩ 0 0 []) 0 false ⟨#[]⟩)) ([(Sn.mk 10 15 yesF), (Sn.mk 20 30 yesF)])) && (decide (((((applyP ([(Sn.mk 10 (-1) yesF)]) (Ru.mk ⟨#[]⟩ ⟨#[]⟩ 3 0 10 (Fm.mk 0 ⟨#[]⟩ 0 0 []) 0 false ⟨#[]⟩)).map celS).length : Nat) : Int) = (0 : Int)))) && (all2 sameS Sn.z (applyP ([(Sn.mk 10 (-1) yesF)]) (Ru.mk ⟨#[]⟩ ⟨#[]⟩ 5 20 0 b36_l1 0 false ⟨#[]⟩)) ([(Sn.mk 10 20 yesF), (Sn.mk 20 (-1) b36_l1)]))) && (decide ((((countP ([(Ru.mk ⟨#[97]⟩ ⟨#[112]⟩ 1 0 0 (Fm.mk 0 ⟨#[]⟩ 0 0 []) 0 false ⟨#[]⟩), (liftR ⟨#[98]⟩ ⟨#[97]⟩), (liftR ⟨#[99]⟩ ⟨#[98]⟩)]) 0).1).getD 0 Ru.z).id = ⟨#[97]⟩))) && (decide ((((countP ([(Ru.mk ⟨#[97]⟩ ⟨#[112]⟩ 1 0 0 (Fm.mk 0 ⟨#[]⟩ 0 0 []) 0 false ⟨#[]⟩), (liftR ⟨#[98]⟩ ⟨#[97]⟩), (liftR ⟨#[99]⟩ ⟨#[98]⟩)]) 0).1).getD 1 Ru.z).id = ⟨#[99]⟩))) && (decide ((((countP ([(Ru.mk ⟨#[97]⟩ ⟨#[112]⟩ 1 0 0 (Fm.mk 0 ⟨#[]⟩ 0 0 []) 0 true ⟨#[]⟩), (liftR ⟨#[98]⟩ ⟨#[97]⟩)]) 0).1).getD 0 Ru.z).id = ⟨#[97]⟩))) && (decide ((countP ([(Ru.mk ⟨#[97]⟩ ⟨#[112]⟩ 1 0 0 (Fm.mk 0 ⟨#[]⟩ 0 0 []) 0 false ⟨#[]⟩), (Ru.mk ⟨#[97]⟩ ⟨#[112]⟩ 1 0 0 (Fm.mk 0 ⟨#[]⟩ 0 0 []) 0 false ⟨#[]⟩)]) 0).2 = (9 : Int)))) && (validP (Ru.mk ⟨#[97]⟩ ⟨#[112]⟩ 1 0 0 (Fm.mk 0 ⟨#[]⟩ 0 0 []) 0 false ⟨#[]⟩))) && (!(validP (liftR ⟨#[98]⟩ ⟨#[]⟩)))))
noncomputable abbrev b36_1 : Id × AO := ([26], .row [.tv (.str ⟨#[97]⟩), .tv (.str ⟨#[112]⟩), .i 1, .i 0, .i 0, .i 0, .tv (.str ⟨#[]⟩), .i 0, .i 0, .tv .nils, .i 0, .b false, .tv (.str ⟨#[]⟩)] false)
noncomputable abbrev b36_2 : Id × AO := ([29], .row [.tv (.str ⟨#[97]⟩), .tv (.str ⟨#[112]⟩), .i 1, .i 0, .i 0, .i 0, .tv (.str ⟨#[]⟩), .i 0, .i 0, .tv .nils, .i 0, .b true, .tv (.str ⟨#[]⟩)] false)
noncomputable abbrev b36_3 : Id × AO := ([10], .row [.i 3, .tv (.str ⟨#[105, 110, 99, 111, 109, 101]⟩), .i 3, .i 3, .tv .nils] false)
theorem c36a   : PureCall Tryd.prog 36 [] (.b headB) := by
 refine walk0 (fn := Tryd.f36) [.tmp 0] Tryd.func36 rfl (by kernel_rfl) rfl (by kernel_rfl) (by kernel_rfl) ?_
 change AT _ _ _ ⟨[], [], [], 0⟩
 refine at_B [] [] [] [(1000000, .any)] [] 1 (by kernel_rfl) ?_ ?_
 ·exact trivial
 refine at_B [1] [.ret (agF yesF), .std, .eq (.tv (.sli 7 (([(Sn.mk 10 (-1) yesF)] : List _).map celS)))] [PureCall Tryd.prog 63 [] (agF yesF), (.tv (.sli 7 [[.int .i64 10, .int .i64 (-1), .int .i64 yesF.op, .str yesF.nm, .int .i64 yesF.cm, .int .i64 yesF.n, .sli 5 (yesF.ks.map encF)]]) : AV) = .tv (.sli 7 (([(Sn.mk 10 (-1) yesF)] : List _).map celS))] [(1000000, .any), (1, .tv (.sli 7 (([(Sn.mk 10 (-1) yesF)] : List _).map celS)))] [] 5 (by kernel_rfl) ?_ ?_
 ·exact ⟨(c63), rfl, trivial⟩
 refine at_B [1, 2] [.ret (agF yesF), .std, .eq (.tv (.sli 7 (([(Sn.mk 10 30 yesF)] : List _).map celS)))] [PureCall Tryd.prog 63 [] (agF yesF), (.tv (.sli 7 [[.int .i64 10, .int .i64 30, .int .i64 yesF.op, .str yesF.nm, .int .i64 yesF.cm, .int .i64 yesF.n, .sli 5 (yesF.ks.map encF)]]) : AV) = .tv (.sli 7 (([(Sn.mk 10 30 yesF)] : List _).map celS))] [(1000000, .any), (1, .tv (.sli 7 (([(Sn.mk 10 (-1) yesF)] : List _).map celS))), (2, .tv (.sli 7 (([(Sn.mk 10 30 yesF)] : List _).map celS)))] [] 9 (by kernel_rfl) ?_ ?_
 ·exact ⟨(c63), rfl, trivial⟩
 refine at_B [1, 2, 3] [] [] [(1000000, .any), (1, .tv (.sli 7 (([(Sn.mk 10 (-1) yesF)] : List _).map celS))), (2, .tv (.sli 7 (([(Sn.mk 10 30 yesF)] : List _).map celS))), (3, .ptr [10] 0)] [b36_3] 12 (by kernel_rfl) ?_ ?_
 ·exact trivial
 refine at_B [1, 3, 4] [.std, .std, .ret (.tv (.sli 7 ((applyP ([(Sn.mk 10 30 yesF)]) (Ru.mk ⟨#[]⟩ ⟨#[]⟩ 4 15 20 (Fm.mk 0 ⟨#[]⟩ 0 0 []) 0 false ⟨#[]⟩)).map celS)))] [PureCall Tryd.prog 42 [.tv (.sli 7 (([(Sn.mk 10 30 yesF)] : List _).map celS)), .agg [.tv (.str ⟨#[]⟩), .tv (.str ⟨#[]⟩), .i 4, .i 15, .i 20, .i 0, .tv (.str ⟨#[]⟩), .i 0, .i 0, .tv .nils, .i 0, .b false, .tv (.str ⟨#[]⟩)]] (.tv (.sli 7 ((applyP ([(Sn.mk 10 30 yesF)]) (Ru.mk ⟨#[]⟩ ⟨#[]⟩ 4 15 20 (Fm.mk 0 ⟨#[]⟩ 0 0 []) 0 false ⟨#[]⟩)).map celS)))] [(1000000, .any), (1, .tv (.sli 7 (([(Sn.mk 10 (-1) yesF)] : List _).map celS))), (3, .ptr [10] 0), (4, .tv (.sli 7 ((applyP ([(Sn.mk 10 30 yesF)]) (Ru.mk ⟨#[]⟩ ⟨#[]⟩ 4 15 20 (Fm.mk 0 ⟨#[]⟩ 0 0 []) 0 false ⟨#[]⟩)).map celS)))] [b36_3] 16 (by kernel_rfl) ?_ ?_
 ·exact ⟨((c42 [(Sn.mk 10 30 yesF)] (Ru.mk ⟨#[]⟩ ⟨#[]⟩ 4 15 20 (Fm.mk 0 ⟨#[]⟩ 0 0 []) 0 false ⟨#[]⟩) (by (try simp only [brs, lns] at *); omega))).arg (.cons (Le.refl _) (.cons (Le.agg (.cons (Le.refl _) (.cons (Le.refl _) (.cons (Le.refl _) (.cons (Le.refl _) (.cons (Le.refl _) (.cons (Le.refl _) (.cons (Le.refl _) (.cons (Le.refl _) (.cons (Le.refl _) (.cons (Le.nils 5) (.cons (Le.refl _) (.cons (Le.refl _) (.cons (Le.refl _) .nil)))))))))))))) .nil)), trivial⟩
 refine at_B [1, 3, 4, 5] [.std, .std, .ret (.tv (.sli 7 ((applyP ([(Sn.mk 10 (-1) yesF)]) (Ru.mk ⟨#[]⟩ ⟨#[]⟩ 3 0 10 (Fm.mk 0 ⟨#[]⟩ 0 0 []) 0 false ⟨#[]⟩)).map celS)))] [PureCall Tryd.prog 42 [.tv (.sli 7 (([(Sn.mk 10 (-1) yesF)] : List _).map celS)), .agg [.tv (.str ⟨#[]⟩), .tv (.str ⟨#[]⟩), .i 3, .i 0, .i 10, .i 0, .tv (.str ⟨#[]⟩), .i 0, .i 0, .tv .nils, .i 0, .b false, .tv (.str ⟨#[]⟩)]] (.tv (.sli 7 ((applyP ([(Sn.mk 10 (-1) yesF)]) (Ru.mk ⟨#[]⟩ ⟨#[]⟩ 3 0 10 (Fm.mk 0 ⟨#[]⟩ 0 0 []) 0 false ⟨#[]⟩)).map celS)))] [(1000000, .any), (1, .tv (.sli 7 (([(Sn.mk 10 (-1) yesF)] : List _).map celS))), (3, .ptr [10] 0), (4, .tv (.sli 7 ((applyP ([(Sn.mk 10 30 yesF)]) (Ru.mk ⟨#[]⟩ ⟨#[]⟩ 4 15 20 (Fm.mk 0 ⟨#[]⟩ 0 0 []) 0 false ⟨#[]⟩)).map celS))), (5, .tv (.sli 7 ((applyP ([(Sn.mk 10 (-1) yesF)]) (Ru.mk ⟨#[]⟩ ⟨#[]⟩ 3 0 10 (Fm.mk 0 ⟨#[]⟩ 0 0 []) 0 false ⟨#[]⟩)).map celS)))] [b36_3] 20 (by kernel_rfl) ?_ ?_
 ·exact ⟨((c42 [(Sn.mk 10 (-1) yesF)] (Ru.mk ⟨#[]⟩ ⟨#[]⟩ 3 0 10 (Fm.mk 0 ⟨#[]⟩ 0 0 []) 0 false ⟨#[]⟩) (by (try simp only [brs, lns] at *); omega))).arg (.cons (Le.refl _) (.cons (Le.agg (.cons (Le.refl _) (.cons (Le.refl _) (.cons (Le.refl _) (.cons (Le.refl _) (.cons (Le.refl _) (.cons (Le.refl _) (.cons (Le.refl _) (.cons (Le.refl _) (.cons (Le.refl _) (.cons (Le.nils 5) (.cons (Le.refl _) (.cons (Le.refl _) (.cons (Le.refl _) .nil)))))))))))))) .nil)), trivial⟩
 refine at_B [3, 4, 5, 6] [.std, .std, .std, .ret (.tv (.sli 7 ((applyP ([(Sn.mk 10 (-1) yesF)]) (Ru.mk ⟨#[]⟩ ⟨#[]⟩ 5 20 0 b36_l1 0 false ⟨#[]⟩)).map celS)))] [PureCall Tryd.prog 42 [.tv (.sli 7 (([(Sn.mk 10 (-1) yesF)] : List _).map celS)), .agg [.tv (.str ⟨#[]⟩), .tv (.str ⟨#[]⟩), .i 5, .i 20, .i 0, .i 3, .tv (.str ⟨#[105, 110, 99, 111, 109, 101]⟩), .i 3, .i 3, .tv .nils, .i 0, .b false, .tv (.str ⟨#[]⟩)]] (.tv (.sli 7 ((applyP ([(Sn.mk 10 (-1) yesF)]) (Ru.mk ⟨#[]⟩ ⟨#[]⟩ 5 20 0 b36_l1 0 false ⟨#[]⟩)).map celS)))] [(1000000, .any), (3, .ptr [10] 0), (4, .tv (.sli 7 ((applyP ([(Sn.mk 10 30 yesF)]) (Ru.mk ⟨#[]⟩ ⟨#[]⟩ 4 15 20 (Fm.mk 0 ⟨#[]⟩ 0 0 []) 0 false ⟨#[]⟩)).map celS))), (5, .tv (.sli 7 ((applyP ([(Sn.mk 10 (-1) yesF)]) (Ru.mk ⟨#[]⟩ ⟨#[]⟩ 3 0 10 (Fm.mk 0 ⟨#[]⟩ 0 0 []) 0 false ⟨#[]⟩)).map celS))), (6, .tv (.sli 7 ((applyP ([(Sn.mk 10 (-1) yesF)]) (Ru.mk ⟨#[]⟩ ⟨#[]⟩ 5 20 0 b36_l1 0 false ⟨#[]⟩)).map celS)))] [b36_3] 25 (by kernel_rfl) ?_ ?_
 ·exact ⟨((c42 [(Sn.mk 10 (-1) yesF)] (Ru.mk ⟨#[]⟩ ⟨#[]⟩ 5 20 0 b36_l1 0 false ⟨#[]⟩) (by (try simp only [brs, lns] at *); omega))).arg (.cons (Le.refl _) (.cons (Le.agg (.cons (Le.refl _) (.cons (Le.refl _) (.cons (Le.refl _) (.cons (Le.refl _) (.cons (Le.refl _) (.cons (Le.refl _) (.cons (Le.refl _) (.cons (Le.refl _) (.cons (Le.refl _) (.cons (Le.nils 5) (.cons (Le.refl _) (.cons (Le.refl _) (.cons (Le.refl _) .nil)))))))))))))) .nil)), trivial⟩
 refine at_B [3, 4, 5, 6, 7] [] [] [(1000000, .any), (3, .ptr [10] 0), (4, .tv (.sli 7 ((applyP ([(Sn.mk 10 30 yesF)]) (Ru.mk ⟨#[]⟩ ⟨#[]⟩ 4 15 20 (Fm.mk 0 ⟨#[]⟩ 0 0 []) 0 false ⟨#[]⟩)).map celS))), (5, .tv (.sli 7 ((applyP ([(Sn.mk 10 (-1) yesF)]) (Ru.mk ⟨#[]⟩ ⟨#[]⟩ 3 0 10 (Fm.mk 0 ⟨#[]⟩ 0 0 []) 0 false ⟨#[]⟩)).map celS))), (6, .tv (.sli 7 ((applyP ([(Sn.mk 10 (-1) yesF)]) (Ru.mk ⟨#[]⟩ ⟨#[]⟩ 5 20 0 b36_l1 0 false ⟨#[]⟩)).map celS))), (7, .ptr [26] 0)] [b36_1, b36_3] 28 (by kernel_rfl) ?_ ?_
 ·exact trivial
 refine at_B [3, 4, 5, 6, 7, 8] [] [] [(1000000, .any), (3, .ptr [10] 0), (4, .tv (.sli 7 ((applyP ([(Sn.mk 10 30 yesF)]) (Ru.mk ⟨#[]⟩ ⟨#[]⟩ 4 15 20 (Fm.mk 0 ⟨#[]⟩ 0 0 []) 0 false ⟨#[]⟩)).map celS))), (5, .tv (.sli 7 ((applyP ([(Sn.mk 10 (-1) yesF)]) (Ru.mk ⟨#[]⟩ ⟨#[]⟩ 3 0 10 (Fm.mk 0 ⟨#[]⟩ 0 0 []) 0 false ⟨#[]⟩)).map celS))), (6, .tv (.sli 7 ((applyP ([(Sn.mk 10 (-1) yesF)]) (Ru.mk ⟨#[]⟩ ⟨#[]⟩ 5 20 0 b36_l1 0 false ⟨#[]⟩)).map celS))), (7, .ptr [26] 0), (8, .ptr [29] 0)] [([29], .row [.tv (.str ⟨#[97]⟩), .tv (.str ⟨#[112]⟩), .i 1, .i 0, .i 0, .i 0, .tv (.str ⟨#[]⟩), .i 0, .i 0, .tv .nils, .i 0, .b false, .tv (.str ⟨#[]⟩)] false), b36_1, b36_3] 31 (by kernel_rfl) ?_ ?_
 ·exact trivial
 refine at_B [3, 4, 5, 6, 7, 8] [] [] [(1000000, .any), (3, .ptr [10] 0), (4, .tv (.sli 7 ((applyP ([(Sn.mk 10 30 yesF)]) (Ru.mk ⟨#[]⟩ ⟨#[]⟩ 4 15 20 (Fm.mk 0 ⟨#[]⟩ 0 0 []) 0 false ⟨#[]⟩)).map celS))), (5, .tv (.sli 7 ((applyP ([(Sn.mk 10 (-1) yesF)]) (Ru.mk ⟨#[]⟩ ⟨#[]⟩ 3 0 10 (Fm.mk 0 ⟨#[]⟩ 0 0 []) 0 false ⟨#[]⟩)).map celS))), (6, .tv (.sli 7 ((applyP ([(Sn.mk 10 (-1) yesF)]) (Ru.mk ⟨#[]⟩ ⟨#[]⟩ 5 20 0 b36_l1 0 false ⟨#[]⟩)).map celS))), (7, .ptr [26] 0), (8, .ptr [29] 0)] [b36_2, b36_1, b36_3] 33 (by kernel_rfl) ?_ ?_
 ·exact trivial
 refine at_D [some [[26]]] [0, 0, 2, 7, 15, 31, 63, 63, 127, 511] [3, 4, 5, 6, 7, 8, 9, 10] [.std, .ret (agR (liftR ⟨#[98]⟩ ⟨#[97]⟩)), .ret (agR (liftR ⟨#[99]⟩ ⟨#[98]⟩)), .std, .ret (.tup [.tv (.sli 13 (((countP ([(Ru.mk ⟨#[97]⟩ ⟨#[112]⟩ 1 0 0 (Fm.mk 0 ⟨#[]⟩ 0 0 []) 0 false ⟨#[]⟩), (liftR ⟨#[98]⟩ ⟨#[97]⟩), (liftR ⟨#[99]⟩ ⟨#[98]⟩)]) 0).1).map celR)), .i ((countP ([(Ru.mk ⟨#[97]⟩ ⟨#[112]⟩ 1 0 0 (Fm.mk 0 ⟨#[]⟩ 0 0 []) 0 false ⟨#[]⟩), (liftR ⟨#[98]⟩ ⟨#[97]⟩), (liftR ⟨#[99]⟩ ⟨#[98]⟩)]) 0).2)])] [PureCall Tryd.prog 65 [.tv (.str ⟨#[98]⟩), .tv (.str ⟨#[97]⟩)] (agR (liftR ⟨#[98]⟩ ⟨#[97]⟩)), PureCall Tryd.prog 65 [.tv (.str ⟨#[99]⟩), .tv (.str ⟨#[98]⟩)] (agR (liftR ⟨#[99]⟩ ⟨#[98]⟩)), PureCall Tryd.prog 64 [.tv (.sli 13 [[.str ⟨#[97]⟩, .str ⟨#[112]⟩, .int .i64 1, .int .i64 0, .int .i64 0, .int .i64 0, .str ⟨#[]⟩, .int .i64 0, .int .i64 0, .nils, .int .i64 0, .bool false, .str ⟨#[]⟩], (celR (liftR ⟨#[98]⟩ ⟨#[97]⟩)), (celR (liftR ⟨#[99]⟩ ⟨#[98]⟩))]), .i 0] (.tup [.tv (.sli 13 (((countP ([(Ru.mk ⟨#[97]⟩ ⟨#[112]⟩ 1 0 0 (Fm.mk 0 ⟨#[]⟩ 0 0 []) 0 false ⟨#[]⟩), (liftR ⟨#[98]⟩ ⟨#[97]⟩), (liftR ⟨#[99]⟩ ⟨#[98]⟩)]) 0).1).map celR)), .i ((countP ([(Ru.mk ⟨#[97]⟩ ⟨#[112]⟩ 1 0 0 (Fm.mk 0 ⟨#[]⟩ 0 0 []) 0 false ⟨#[]⟩), (liftR ⟨#[98]⟩ ⟨#[97]⟩), (liftR ⟨#[99]⟩ ⟨#[98]⟩)]) 0).2)])] [(1000000, .any), (3, .ptr [10] 0), (4, .tv (.sli 7 ((applyP ([(Sn.mk 10 30 yesF)]) (Ru.mk ⟨#[]⟩ ⟨#[]⟩ 4 15 20 (Fm.mk 0 ⟨#[]⟩ 0 0 []) 0 false ⟨#[]⟩)).map celS))), (5, .tv (.sli 7 ((applyP ([(Sn.mk 10 (-1) yesF)]) (Ru.mk ⟨#[]⟩ ⟨#[]⟩ 3 0 10 (Fm.mk 0 ⟨#[]⟩ 0 0 []) 0 false ⟨#[]⟩)).map celS))), (6, .tv (.sli 7 ((applyP ([(Sn.mk 10 (-1) yesF)]) (Ru.mk ⟨#[]⟩ ⟨#[]⟩ 5 20 0 b36_l1 0 false ⟨#[]⟩)).map celS))), (7, .ptr [26] 0), (8, .ptr [29] 0), (9, .tv (.sli 13 (((countP ([(Ru.mk ⟨#[97]⟩ ⟨#[112]⟩ 1 0 0 (Fm.mk 0 ⟨#[]⟩ 0 0 []) 0 false ⟨#[]⟩), (liftR ⟨#[98]⟩ ⟨#[97]⟩), (liftR ⟨#[99]⟩ ⟨#[98]⟩)]) 0).1).map celR))), (10, .i ((countP ([(Ru.mk ⟨#[97]⟩ ⟨#[112]⟩ 1 0 0 (Fm.mk 0 ⟨#[]⟩ 0 0 []) 0 false ⟨#[]⟩), (liftR ⟨#[98]⟩ ⟨#[97]⟩), (liftR ⟨#[99]⟩ ⟨#[98]⟩)]) 0).2))] [b36_2, b36_1, b36_3] 43 (by kernel_rfl) ?_ ?_
 ·exact ⟨(c65 ⟨#[98]⟩ ⟨#[97]⟩), (c65 ⟨#[99]⟩ ⟨#[98]⟩), ((c64 [(Ru.mk ⟨#[97]⟩ ⟨#[112]⟩ 1 0 0 (Fm.mk 0 ⟨#[]⟩ 0 0 []) 0 false ⟨#[]⟩), (liftR ⟨#[98]⟩ ⟨#[97]⟩), (liftR ⟨#[99]⟩ ⟨#[98]⟩)] 0)).arg (.cons (Le.rows (.cons (.cons (TLe.refl _) (.cons (TLe.refl _) (.cons (TLe.refl _) (.cons (TLe.refl _) (.cons (TLe.refl _) (.cons (TLe.refl _) (.cons (TLe.refl _) (.cons (TLe.refl _) (.cons (TLe.refl _) (.cons (TLe.nils 5) (.cons (TLe.refl _) (.cons (TLe.refl _) (.cons (TLe.refl _) .nil))))))))))))) (.cons (TLs.refl _) (.cons (TLs.refl _) .nil)))) (.cons (Le.refl _) .nil)), trivial⟩
 refine at_D [some [[29]]] [0, 0, 3, 7, 15, 31, 31, 63, 255] [3, 4, 5, 6, 7, 9, 10, 11, 12] [.std, .ret (agR (liftR ⟨#[98]⟩ ⟨#[97]⟩)), .std, .ret (.tup [.tv (.sli 13 (((countP ([(Ru.mk ⟨#[97]⟩ ⟨#[112]⟩ 1 0 0 (Fm.mk 0 ⟨#[]⟩ 0 0 []) 0 true ⟨#[]⟩), (liftR ⟨#[98]⟩ ⟨#[97]⟩)]) 0).1).map celR)), .i ((countP ([(Ru.mk ⟨#[97]⟩ ⟨#[112]⟩ 1 0 0 (Fm.mk 0 ⟨#[]⟩ 0 0 []) 0 true ⟨#[]⟩), (liftR ⟨#[98]⟩ ⟨#[97]⟩)]) 0).2)])] [PureCall Tryd.prog 65 [.tv (.str ⟨#[98]⟩), .tv (.str ⟨#[97]⟩)] (agR (liftR ⟨#[98]⟩ ⟨#[97]⟩)), PureCall Tryd.prog 64 [.tv (.sli 13 [[.str ⟨#[97]⟩, .str ⟨#[112]⟩, .int .i64 1, .int .i64 0, .int .i64 0, .int .i64 0, .str ⟨#[]⟩, .int .i64 0, .int .i64 0, .nils, .int .i64 0, .bool true, .str ⟨#[]⟩], (celR (liftR ⟨#[98]⟩ ⟨#[97]⟩))]), .i 0] (.tup [.tv (.sli 13 (((countP ([(Ru.mk ⟨#[97]⟩ ⟨#[112]⟩ 1 0 0 (Fm.mk 0 ⟨#[]⟩ 0 0 []) 0 true ⟨#[]⟩), (liftR ⟨#[98]⟩ ⟨#[97]⟩)]) 0).1).map celR)), .i ((countP ([(Ru.mk ⟨#[97]⟩ ⟨#[112]⟩ 1 0 0 (Fm.mk 0 ⟨#[]⟩ 0 0 []) 0 true ⟨#[]⟩), (liftR ⟨#[98]⟩ ⟨#[97]⟩)]) 0).2)])] [(1000000, .any), (3, .ptr [10] 0), (4, .tv (.sli 7 ((applyP ([(Sn.mk 10 30 yesF)]) (Ru.mk ⟨#[]⟩ ⟨#[]⟩ 4 15 20 (Fm.mk 0 ⟨#[]⟩ 0 0 []) 0 false ⟨#[]⟩)).map celS))), (5, .tv (.sli 7 ((applyP ([(Sn.mk 10 (-1) yesF)]) (Ru.mk ⟨#[]⟩ ⟨#[]⟩ 3 0 10 (Fm.mk 0 ⟨#[]⟩ 0 0 []) 0 false ⟨#[]⟩)).map celS))), (6, .tv (.sli 7 ((applyP ([(Sn.mk 10 (-1) yesF)]) (Ru.mk ⟨#[]⟩ ⟨#[]⟩ 5 20 0 b36_l1 0 false ⟨#[]⟩)).map celS))), (7, .ptr [26] 0), (9, .tv (.sli 13 (((countP ([(Ru.mk ⟨#[97]⟩ ⟨#[112]⟩ 1 0 0 (Fm.mk 0 ⟨#[]⟩ 0 0 []) 0 false ⟨#[]⟩), (liftR ⟨#[98]⟩ ⟨#[97]⟩), (liftR ⟨#[99]⟩ ⟨#[98]⟩)]) 0).1).map celR))), (10, .i ((countP ([(Ru.mk ⟨#[97]⟩ ⟨#[112]⟩ 1 0 0 (Fm.mk 0 ⟨#[]⟩ 0 0 []) 0 false ⟨#[]⟩), (liftR ⟨#[98]⟩ ⟨#[97]⟩), (liftR ⟨#[99]⟩ ⟨#[98]⟩)]) 0).2)), (11, .tv (.sli 13 (((countP ([(Ru.mk ⟨#[97]⟩ ⟨#[112]⟩ 1 0 0 (Fm.mk 0 ⟨#[]⟩ 0 0 []) 0 true ⟨#[]⟩), (liftR ⟨#[98]⟩ ⟨#[97]⟩)]) 0).1).map celR))), (12, .i ((countP ([(Ru.mk ⟨#[97]⟩ ⟨#[112]⟩ 1 0 0 (Fm.mk 0 ⟨#[]⟩ 0 0 []) 0 true ⟨#[]⟩), (liftR ⟨#[98]⟩ ⟨#[97]⟩)]) 0).2))] [b36_2, b36_1, b36_3] 52 (by kernel_rfl) ?_ ?_
 ·exact ⟨(c65 ⟨#[98]⟩ ⟨#[97]⟩), ((c64 [(Ru.mk ⟨#[97]⟩ ⟨#[112]⟩ 1 0 0 (Fm.mk 0 ⟨#[]⟩ 0 0 []) 0 true ⟨#[]⟩), (liftR ⟨#[98]⟩ ⟨#[97]⟩)] 0)).arg (.cons (Le.rows (.cons (.cons (TLe.refl _) (.cons (TLe.refl _) (.cons (TLe.refl _) (.cons (TLe.refl _) (.cons (TLe.refl _) (.cons (TLe.refl _) (.cons (TLe.refl _) (.cons (TLe.refl _) (.cons (TLe.refl _) (.cons (TLe.nils 5) (.cons (TLe.refl _) (.cons (TLe.refl _) (.cons (TLe.refl _) .nil))))))))))))) (.cons (TLs.refl _) .nil))) (.cons (Le.refl _) .nil)), trivial⟩
 refine at_B [3, 4, 5, 6, 7, 9, 10, 11, 12, 14] [.std, .std, .std, .ret (.tup [.tv (.sli 13 (((countP ([(Ru.mk ⟨#[97]⟩ ⟨#[112]⟩ 1 0 0 (Fm.mk 0 ⟨#[]⟩ 0 0 []) 0 false ⟨#[]⟩), (Ru.mk ⟨#[97]⟩ ⟨#[112]⟩ 1 0 0 (Fm.mk 0 ⟨#[]⟩ 0 0 []) 0 false ⟨#[]⟩)]) 0).1).map celR)), .i ((countP ([(Ru.mk ⟨#[97]⟩ ⟨#[112]⟩ 1 0 0 (Fm.mk 0 ⟨#[]⟩ 0 0 []) 0 false ⟨#[]⟩), (Ru.mk ⟨#[97]⟩ ⟨#[112]⟩ 1 0 0 (Fm.mk 0 ⟨#[]⟩ 0 0 []) 0 false ⟨#[]⟩)]) 0).2)])] [PureCall Tryd.prog 64 [.tv (.sli 13 [[.str ⟨#[97]⟩, .str ⟨#[112]⟩, .int .i64 1, .int .i64 0, .int .i64 0, .int .i64 0, .str ⟨#[]⟩, .int .i64 0, .int .i64 0, .nils, .int .i64 0, .bool false, .str ⟨#[]⟩], [.str ⟨#[97]⟩, .str ⟨#[112]⟩, .int .i64 1, .int .i64 0, .int .i64 0, .int .i64 0, .str ⟨#[]⟩, .int .i64 0, .int .i64 0, .nils, .int .i64 0, .bool false, .str ⟨#[]⟩]]), .i 0] (.tup [.tv (.sli 13 (((countP ([(Ru.mk ⟨#[97]⟩ ⟨#[112]⟩ 1 0 0 (Fm.mk 0 ⟨#[]⟩ 0 0 []) 0 false ⟨#[]⟩), (Ru.mk ⟨#[97]⟩ ⟨#[112]⟩ 1 0 0 (Fm.mk 0 ⟨#[]⟩ 0 0 []) 0 false ⟨#[]⟩)]) 0).1).map celR)), .i ((countP ([(Ru.mk ⟨#[97]⟩ ⟨#[112]⟩ 1 0 0 (Fm.mk 0 ⟨#[]⟩ 0 0 []) 0 false ⟨#[]⟩), (Ru.mk ⟨#[97]⟩ ⟨#[112]⟩ 1 0 0 (Fm.mk 0 ⟨#[]⟩ 0 0 []) 0 false ⟨#[]⟩)]) 0).2)])] [(1000000, .any), (3, .ptr [10] 0), (4, .tv (.sli 7 ((applyP ([(Sn.mk 10 30 yesF)]) (Ru.mk ⟨#[]⟩ ⟨#[]⟩ 4 15 20 (Fm.mk 0 ⟨#[]⟩ 0 0 []) 0 false ⟨#[]⟩)).map celS))), (5, .tv (.sli 7 ((applyP ([(Sn.mk 10 (-1) yesF)]) (Ru.mk ⟨#[]⟩ ⟨#[]⟩ 3 0 10 (Fm.mk 0 ⟨#[]⟩ 0 0 []) 0 false ⟨#[]⟩)).map celS))), (6, .tv (.sli 7 ((applyP ([(Sn.mk 10 (-1) yesF)]) (Ru.mk ⟨#[]⟩ ⟨#[]⟩ 5 20 0 b36_l1 0 false ⟨#[]⟩)).map celS))), (7, .ptr [26] 0), (9, .tv (.sli 13 (((countP ([(Ru.mk ⟨#[97]⟩ ⟨#[112]⟩ 1 0 0 (Fm.mk 0 ⟨#[]⟩ 0 0 []) 0 false ⟨#[]⟩), (liftR ⟨#[98]⟩ ⟨#[97]⟩), (liftR ⟨#[99]⟩ ⟨#[98]⟩)]) 0).1).map celR))), (10, .i ((countP ([(Ru.mk ⟨#[97]⟩ ⟨#[112]⟩ 1 0 0 (Fm.mk 0 ⟨#[]⟩ 0 0 []) 0 false ⟨#[]⟩), (liftR ⟨#[98]⟩ ⟨#[97]⟩), (liftR ⟨#[99]⟩ ⟨#[98]⟩)]) 0).2)), (11, .tv (.sli 13 (((countP ([(Ru.mk ⟨#[97]⟩ ⟨#[112]⟩ 1 0 0 (Fm.mk 0 ⟨#[]⟩ 0 0 []) 0 true ⟨#[]⟩), (liftR ⟨#[98]⟩ ⟨#[97]⟩)]) 0).1).map celR))), (12, .i ((countP ([(Ru.mk ⟨#[97]⟩ ⟨#[112]⟩ 1 0 0 (Fm.mk 0 ⟨#[]⟩ 0 0 []) 0 true ⟨#[]⟩), (liftR ⟨#[98]⟩ ⟨#[97]⟩)]) 0).2)), (14, .i ((countP ([(Ru.mk ⟨#[97]⟩ ⟨#[112]⟩ 1 0 0 (Fm.mk 0 ⟨#[]⟩ 0 0 []) 0 false ⟨#[]⟩), (Ru.mk ⟨#[97]⟩ ⟨#[112]⟩ 1 0 0 (Fm.mk 0 ⟨#[]⟩ 0 0 []) 0 false ⟨#[]⟩)]) 0).2))] [b36_2, b36_1, b36_3] 61 (by kernel_rfl) ?_ ?_
 ·exact ⟨((c64 [(Ru.mk ⟨#[97]⟩ ⟨#[112]⟩ 1 0 0 (Fm.mk 0 ⟨#[]⟩ 0 0 []) 0 false ⟨#[]⟩), (Ru.mk ⟨#[97]⟩ ⟨#[112]⟩ 1 0 0 (Fm.mk 0 ⟨#[]⟩ 0 0 []) 0 false ⟨#[]⟩)] 0)).arg (.cons (Le.rows (.cons (.cons (TLe.refl _) (.cons (TLe.refl _) (.cons (TLe.refl _) (.cons (TLe.refl _) (.cons (TLe.refl _) (.cons (TLe.refl _) (.cons (TLe.refl _) (.cons (TLe.refl _) (.cons (TLe.refl _) (.cons (TLe.nils 5) (.cons (TLe.refl _) (.cons (TLe.refl _) (.cons (TLe.refl _) .nil))))))))))))) (.cons (.cons (TLe.refl _) (.cons (TLe.refl _) (.cons (TLe.refl _) (.cons (TLe.refl _) (.cons (TLe.refl _) (.cons (TLe.refl _) (.cons (TLe.refl _) (.cons (TLe.refl _) (.cons (TLe.refl _) (.cons (TLe.nils 5) (.cons (TLe.refl _) (.cons (TLe.refl _) (.cons (TLe.refl _) .nil))))))))))))) .nil))) (.cons (Le.refl _) .nil)), trivial⟩
 refine at_seq ?_
 refine at_B [3, 4, 5, 6, 7, 9, 11, 14, 73] [] [] [(1000000, .any), (3, .ptr [10] 0), (4, .tv (.sli 7 ((applyP ([(Sn.mk 10 30 yesF)]) (Ru.mk ⟨#[]⟩ ⟨#[]⟩ 4 15 20 (Fm.mk 0 ⟨#[]⟩ 0 0 []) 0 false ⟨#[]⟩)).map celS))), (5, .tv (.sli 7 ((applyP ([(Sn.mk 10 (-1) yesF)]) (Ru.mk ⟨#[]⟩ ⟨#[]⟩ 3 0 10 (Fm.mk 0 ⟨#[]⟩ 0 0 []) 0 false ⟨#[]⟩)).map celS))), (6, .tv (.sli 7 ((applyP ([(Sn.mk 10 (-1) yesF)]) (Ru.mk ⟨#[]⟩ ⟨#[]⟩ 5 20 0 b36_l1 0 false ⟨#[]⟩)).map celS))), (7, .ptr [26] 0), (9, .tv (.sli 13 (((countP ([(Ru.mk ⟨#[97]⟩ ⟨#[112]⟩ 1 0 0 (Fm.mk 0 ⟨#[]⟩ 0 0 []) 0 false ⟨#[]⟩), (liftR ⟨#[98]⟩ ⟨#[97]⟩), (liftR ⟨#[99]⟩ ⟨#[98]⟩)]) 0).1).map celR))), (11, .tv (.sli 13 (((countP ([(Ru.mk ⟨#[97]⟩ ⟨#[112]⟩ 1 0 0 (Fm.mk 0 ⟨#[]⟩ 0 0 []) 0 true ⟨#[]⟩), (liftR ⟨#[98]⟩ ⟨#[97]⟩)]) 0).1).map celR))), (14, .i ((countP ([(Ru.mk ⟨#[97]⟩ ⟨#[112]⟩ 1 0 0 (Fm.mk 0 ⟨#[]⟩ 0 0 []) 0 false ⟨#[]⟩), (Ru.mk ⟨#[97]⟩ ⟨#[112]⟩ 1 0 0 (Fm.mk 0 ⟨#[]⟩ 0 0 []) 0 false ⟨#[]⟩)]) 0).2)), (73, .b ((((!decide ((countP ([(Ru.mk ⟨#[97]⟩ ⟨#[112]⟩ 1 0 0 (Fm.mk 0 ⟨#[]⟩ 0 0 []) 0 false ⟨#[]⟩), (liftR ⟨#[98]⟩ ⟨#[97]⟩), (liftR ⟨#[99]⟩ ⟨#[98]⟩)]) 0).2 = (0 : Int))) || (!decide ((countP ([(Ru.mk ⟨#[97]⟩ ⟨#[112]⟩ 1 0 0 (Fm.mk 0 ⟨#[]⟩ 0 0 []) 0 true ⟨#[]⟩), (liftR ⟨#[98]⟩ ⟨#[97]⟩)]) 0).2 = (0 : Int)))) || (!decide ((((((countP ([(Ru.mk ⟨#[97]⟩ ⟨#[112]⟩ 1 0 0 (Fm.mk 0 ⟨#[]⟩ 0 0 []) 0 false ⟨#[]⟩), (liftR ⟨#[98]⟩ ⟨#[97]⟩), (liftR ⟨#[99]⟩ ⟨#[98]⟩)]) 0).1).map celR).length : Nat) : Int) = (2 : Int)))) || (!decide ((((((countP ([(Ru.mk ⟨#[97]⟩ ⟨#[112]⟩ 1 0 0 (Fm.mk 0 ⟨#[]⟩ 0 0 []) 0 true ⟨#[]⟩), (liftR ⟨#[98]⟩ ⟨#[97]⟩)]) 0).1).map celR).length : Nat) : Int) = (1 : Int)))))] [b36_2, b36_1, b36_3] 77 (by kernel_rfl) ?_ ?_
 ·exact trivial
 refine at_cond (b := ((((!decide ((countP ([(Ru.mk ⟨#[97]⟩ ⟨#[112]⟩ 1 0 0 (Fm.mk 0 ⟨#[]⟩ 0 0 []) 0 false ⟨#[]⟩), (liftR ⟨#[98]⟩ ⟨#[97]⟩), (liftR ⟨#[99]⟩ ⟨#[98]⟩)]) 0).2 = (0 : Int))) || (!decide ((countP ([(Ru.mk ⟨#[97]⟩ ⟨#[112]⟩ 1 0 0 (Fm.mk 0 ⟨#[]⟩ 0 0 []) 0 true ⟨#[]⟩), (liftR ⟨#[98]⟩ ⟨#[97]⟩)]) 0).2 = (0 : Int)))) || (!decide ((((((countP ([(Ru.mk ⟨#[97]⟩ ⟨#[112]⟩ 1 0 0 (Fm.mk 0 ⟨#[]⟩ 0 0 []) 0 false ⟨#[]⟩), (liftR ⟨#[98]⟩ ⟨#[97]⟩), (liftR ⟨#[99]⟩ ⟨#[98]⟩)]) 0).1).map celR).length : Nat) : Int) = (2 : Int)))) || (!decide ((((((countP ([(Ru.mk ⟨#[97]⟩ ⟨#[112]⟩ 1 0 0 (Fm.mk 0 ⟨#[]⟩ 0 0 []) 0 true ⟨#[]⟩), (liftR ⟨#[98]⟩ ⟨#[97]⟩)]) 0).1).map celR).length : Nat) : Int) = (1 : Int))))) rfl rfl (fun hc73 => ?_) (fun hc73 => ?_)
 ·have q73 := hc73
  (try simp only [brs] at q73)
  refine at_B [0] [] [] [(1000000, .any), (0, .b false)] [b36_2, b36_1, b36_3] 78 (by kernel_rfl) ?_ ?_
  ·exact trivial
  refine at_ret ?_
  refine fin0 (.inr rfl) (.b false) [b36_2, b36_1, b36_3] (.b false) (H2 := [b36_2, b36_1, b36_3]) (by kernel_rfl) (by kernel_rfl) ?_
  refine Le.of_eq ?_
  first | rfl | (simp only [headB, hc73, cond_true, cond_false]; done) | (simp only [headB, hc73, cond_true, cond_false]; rfl)
 ·have q73 := hc73
  (try simp only [brs] at q73)
  refine at_skip ?_
  change AT _ _ _ _
  refine at_D [none, none, none, none, none, none, none, none, none, none, none, none, none, none, none, none, some [[10]]] [0, 0, 2, 2, 10, 30, 63, 127, 255, 511, 1023, 2047, 4095, 8191, 8191, 24575, 8191, 73727, 253951, 524287, 1048575, 2097151] [7, 9, 11, 14, 15] [.std, .ret (agF yesF), .std, .ret (agF yesF), .std, .eq (.tv (.sli 7 (([(Sn.mk 10 15 yesF), (Sn.mk 20 30 yesF)] : List _).map celS))), .ret (.b (all2 sameS Sn.z (applyP ([(Sn.mk 10 30 yesF)]) (Ru.mk ⟨#[]⟩ ⟨#[]⟩ 4 15 20 (Fm.mk 0 ⟨#[]⟩ 0 0 []) 0 false ⟨#[]⟩)) ([(Sn.mk 10 15 yesF), (Sn.mk 20 30 yesF)]))), .std, .std, .std, .std, .std, .std, .std, .ret (agF yesF), .std, .std, .std, .std, .ret (.b (all2 sameS Sn.z (applyP ([(Sn.mk 10 (-1) yesF)]) (Ru.mk ⟨#[]⟩ ⟨#[]⟩ 5 20 0 b36_l1 0 false ⟨#[]⟩)) ([(Sn.mk 10 20 yesF), (Sn.mk 20 (-1) b36_l1)])))] [PureCall Tryd.prog 63 [] (agF yesF), PureCall Tryd.prog 63 [] (agF yesF), (.tv (.sli 7 [[.int .i64 10, .int .i64 15, .int .i64 yesF.op, .str yesF.nm, .int .i64 yesF.cm, .int .i64 yesF.n, .sli 5 (yesF.ks.map encF)], [.int .i64 20, .int .i64 30, .int .i64 yesF.op, .str yesF.nm, .int .i64 yesF.cm, .int .i64 yesF.n, .sli 5 (yesF.ks.map encF)]]) : AV) = .tv (.sli 7 (([(Sn.mk 10 15 yesF), (Sn.mk 20 30 yesF)] : List _).map celS)), PureCall Tryd.prog 66 [.tv (.sli 7 ((applyP ([(Sn.mk 10 30 yesF)]) (Ru.mk ⟨#[]⟩ ⟨#[]⟩ 4 15 20 (Fm.mk 0 ⟨#[]⟩ 0 0 []) 0 false ⟨#[]⟩)).map celS)), .tv (.sli 7 (([(Sn.mk 10 15 yesF), (Sn.mk 20 30 yesF)] : List _).map celS))] (.b (all2 sameS Sn.z (applyP ([(Sn.mk 10 30 yesF)]) (Ru.mk ⟨#[]⟩ ⟨#[]⟩ 4 15 20 (Fm.mk 0 ⟨#[]⟩ 0 0 []) 0 false ⟨#[]⟩)) ([(Sn.mk 10 15 yesF), (Sn.mk 20 30 yesF)]))), (((all2 sameS Sn.z (applyP ([(Sn.mk 10 30 yesF)]) (Ru.mk ⟨#[]⟩ ⟨#[]⟩ 4 15 20 (Fm.mk 0 ⟨#[]⟩ 0 0 []) 0 false ⟨#[]⟩)) ([(Sn.mk 10 15 yesF), (Sn.mk 20 30 yesF)])) && (decide (((((applyP ([(Sn.mk 10 (-1) yesF)]) (Ru.mk ⟨#[]⟩ ⟨#[]⟩ 3 0 10 (Fm.mk 0 ⟨#[]⟩ 0 0 []) 0 false ⟨#[]⟩)).map celS).length : Nat) : Int) = (0 : Int)))) = true) → PureCall Tryd.prog 63 [] (agF yesF), (((all2 sameS Sn.z (applyP ([(Sn.mk 10 30 yesF)]) (Ru.mk ⟨#[]⟩ ⟨#[]⟩ 4 15 20 (Fm.mk 0 ⟨#[]⟩ 0 0 []) 0 false ⟨#[]⟩)) ([(Sn.mk 10 15 yesF), (Sn.mk 20 30 yesF)])) && (decide (((((applyP ([(Sn.mk 10 (-1) yesF)]) (Ru.mk ⟨#[]⟩ ⟨#[]⟩ 3 0 10 (Fm.mk 0 ⟨#[]⟩ 0 0 []) 0 false ⟨#[]⟩)).map celS).length : Nat) : Int) = (0 : Int)))) = true) → PureCall Tryd.prog 66 [.tv (.sli 7 ((applyP ([(Sn.mk 10 (-1) yesF)]) (Ru.mk ⟨#[]⟩ ⟨#[]⟩ 5 20 0 b36_l1 0 false ⟨#[]⟩)).map celS)), .tv (.sli 7 [[.int .i64 10, .int .i64 20, .int .i64 yesF.op, .str yesF.nm, .int .i64 yesF.cm, .int .i64 yesF.n, .sli 5 (yesF.ks.map encF)], [.int .i64 20, .int .i64 (-1), .int .i64 3, .str ⟨#[105, 110, 99, 111, 109, 101]⟩, .int .i64 3, .int .i64 3, .nils]])] (.b (all2 sameS Sn.z (applyP ([(Sn.mk 10 (-1) yesF)]) (Ru.mk ⟨#[]⟩ ⟨#[]⟩ 5 20 0 b36_l1 0 false ⟨#[]⟩)) ([(Sn.mk 10 20 yesF), (Sn.mk 20 (-1) b36_l1)])))] [(1000000, .any), (7, .ptr [26] 0), (9, .tv (.sli 13 (((countP ([(Ru.mk ⟨#[97]⟩ ⟨#[112]⟩ 1 0 0 (Fm.mk 0 ⟨#[]⟩ 0 0 []) 0 false ⟨#[]⟩), (liftR ⟨#[98]⟩ ⟨#[97]⟩), (liftR ⟨#[99]⟩ ⟨#[98]⟩)]) 0).1).map celR))), (11, .tv (.sli 13 (((countP ([(Ru.mk ⟨#[97]⟩ ⟨#[112]⟩ 1 0 0 (Fm.mk 0 ⟨#[]⟩ 0 0 []) 0 true ⟨#[]⟩), (liftR ⟨#[98]⟩ ⟨#[97]⟩)]) 0).1).map celR))), (14, .i ((countP ([(Ru.mk ⟨#[97]⟩ ⟨#[112]⟩ 1 0 0 (Fm.mk 0 ⟨#[]⟩ 0 0 []) 0 false ⟨#[]⟩), (Ru.mk ⟨#[97]⟩ ⟨#[112]⟩ 1 0 0 (Fm.mk 0 ⟨#[]⟩ 0 0 []) 0 false ⟨#[]⟩)]) 0).2)), (15, .b (((all2 sameS Sn.z (applyP ([(Sn.mk 10 30 yesF)]) (Ru.mk ⟨#[]⟩ ⟨#[]⟩ 4 15 20 (Fm.mk 0 ⟨#[]⟩ 0 0 []) 0 false ⟨#[]⟩)) ([(Sn.mk 10 15 yesF), (Sn.mk 20 30 yesF)])) && (decide (((((applyP ([(Sn.mk 10 (-1) yesF)]) (Ru.mk ⟨#[]⟩ ⟨#[]⟩ 3 0 10 (Fm.mk 0 ⟨#[]⟩ 0 0 []) 0 false ⟨#[]⟩)).map celS).length : Nat) : Int) = (0 : Int)))) && (all2 sameS Sn.z (applyP ([(Sn.mk 10 (-1) yesF)]) (Ru.mk ⟨#[]⟩ ⟨#[]⟩ 5 20 0 b36_l1 0 false ⟨#[]⟩)) ([(Sn.mk 10 20 yesF), (Sn.mk 20 (-1) b36_l1)]))))] [b36_2, b36_1, b36_3] 99 (by kernel_rfl) ?_ ?_
  ·exact ⟨(c63), (c63), rfl, (c66 (applyP ([(Sn.mk 10 30 yesF)]) (Ru.mk ⟨#[]⟩ ⟨#[]⟩ 4 15 20 (Fm.mk 0 ⟨#[]⟩ 0 0 []) 0 false ⟨#[]⟩)) [(Sn.mk 10 15 yesF), (Sn.mk 20 30 yesF)]), fun hg0 => (c63), fun hg0 => ((c66 (applyP ([(Sn.mk 10 (-1) yesF)]) (Ru.mk ⟨#[]⟩ ⟨#[]⟩ 5 20 0 b36_l1 0 false ⟨#[]⟩)) [(Sn.mk 10 20 yesF), (Sn.mk 20 (-1) b36_l1)])).arg (.cons (Le.refl _) (.cons (Le.rows (.cons (TLs.refl _) (.cons (.cons (TLe.refl _) (.cons (TLe.refl _) (.cons (TLe.refl _) (.cons (TLe.refl _) (.cons (TLe.refl _) (.cons (TLe.refl _) (.cons (TLe.nils 5) .nil))))))) .nil))) .nil)), trivial⟩
  refine at_B [0] [.std, .std, .std, .eq (.tv (.ptr (celR (((countP ([(Ru.mk ⟨#[97]⟩ ⟨#[112]⟩ 1 0 0 (Fm.mk 0 ⟨#[]⟩ 0 0 []) 0 false ⟨#[]⟩), (liftR ⟨#[98]⟩ ⟨#[97]⟩), (liftR ⟨#[99]⟩ ⟨#[98]⟩)]) 0).1).getD 0 Ru.z)))), .std, .std, .std, .std, .std, .std, .eq (.tv (.ptr (celR (((countP ([(Ru.mk ⟨#[97]⟩ ⟨#[112]⟩ 1 0 0 (Fm.mk 0 ⟨#[]⟩ 0 0 []) 0 false ⟨#[]⟩), (liftR ⟨#[98]⟩ ⟨#[97]⟩), (liftR ⟨#[99]⟩ ⟨#[98]⟩)]) 0).1).getD 1 Ru.z)))), .std, .std, .std, .std, .std, .std, .eq (.tv (.ptr (celR (((countP ([(Ru.mk ⟨#[97]⟩ ⟨#[112]⟩ 1 0 0 (Fm.mk 0 ⟨#[]⟩ 0 0 []) 0 true ⟨#[]⟩), (liftR ⟨#[98]⟩ ⟨#[97]⟩)]) 0).1).getD 0 Ru.z)))), .std, .std, .std, .std, .std, .std, .std, .std, .std, .std, .ret (.b (validP (Ru.mk ⟨#[97]⟩ ⟨#[112]⟩ 1 0 0 (Fm.mk 0 ⟨#[]⟩ 0 0 []) 0 false ⟨#[]⟩))), .std, .std, .ret (agR (liftR ⟨#[98]⟩ ⟨#[]⟩)), .ret (.b (validP (liftR ⟨#[98]⟩ ⟨#[]⟩)))] [((((all2 sameS Sn.z (applyP ([(Sn.mk 10 30 yesF)]) (Ru.mk ⟨#[]⟩ ⟨#[]⟩ 4 15 20 (Fm.mk 0 ⟨#[]⟩ 0 0 []) 0 false ⟨#[]⟩)) ([(Sn.mk 10 15 yesF), (Sn.mk 20 30 yesF)])) && (decide (((((applyP ([(Sn.mk 10 (-1) yesF)]) (Ru.mk ⟨#[]⟩ ⟨#[]⟩ 3 0 10 (Fm.mk 0 ⟨#[]⟩ 0 0 []) 0 false ⟨#[]⟩)).map celS).length : Nat) : Int) = (0 : Int)))) && (all2 sameS Sn.z (applyP ([(Sn.mk 10 (-1) yesF)]) (Ru.mk ⟨#[]⟩ ⟨#[]⟩ 5 20 0 b36_l1 0 false ⟨#[]⟩)) ([(Sn.mk 10 20 yesF), (Sn.mk 20 (-1) b36_l1)]))) = true) → (0 ≤ (0 : Int) ∧ (0 : Int) < ((((((countP ([(Ru.mk ⟨#[97]⟩ ⟨#[112]⟩ 1 0 0 (Fm.mk 0 ⟨#[]⟩ 0 0 []) 0 false ⟨#[]⟩), (liftR ⟨#[98]⟩ ⟨#[97]⟩), (liftR ⟨#[99]⟩ ⟨#[98]⟩)]) 0).1).map celR) : List (List TV)).length : Nat) : Int)), ((((all2 sameS Sn.z (applyP ([(Sn.mk 10 30 yesF)]) (Ru.mk ⟨#[]⟩ ⟨#[]⟩ 4 15 20 (Fm.mk 0 ⟨#[]⟩ 0 0 []) 0 false ⟨#[]⟩)) ([(Sn.mk 10 15 yesF), (Sn.mk 20 30 yesF)])) && (decide (((((applyP ([(Sn.mk 10 (-1) yesF)]) (Ru.mk ⟨#[]⟩ ⟨#[]⟩ 3 0 10 (Fm.mk 0 ⟨#[]⟩ 0 0 []) 0 false ⟨#[]⟩)).map celS).length : Nat) : Int) = (0 : Int)))) && (all2 sameS Sn.z (applyP ([(Sn.mk 10 (-1) yesF)]) (Ru.mk ⟨#[]⟩ ⟨#[]⟩ 5 20 0 b36_l1 0 false ⟨#[]⟩)) ([(Sn.mk 10 20 yesF), (Sn.mk 20 (-1) b36_l1)]))) = true) → (.tv (.ptr (rowAt (((countP ([(Ru.mk ⟨#[97]⟩ ⟨#[112]⟩ 1 0 0 (Fm.mk 0 ⟨#[]⟩ 0 0 []) 0 false ⟨#[]⟩), (liftR ⟨#[98]⟩ ⟨#[97]⟩), (liftR ⟨#[99]⟩ ⟨#[98]⟩)]) 0).1).map celR) (0 : Int))) : AV) = .tv (.ptr (celR (((countP ([(Ru.mk ⟨#[97]⟩ ⟨#[112]⟩ 1 0 0 (Fm.mk 0 ⟨#[]⟩ 0 0 []) 0 false ⟨#[]⟩), (liftR ⟨#[98]⟩ ⟨#[97]⟩), (liftR ⟨#[99]⟩ ⟨#[98]⟩)]) 0).1).getD 0 Ru.z))), (((((all2 sameS Sn.z (applyP ([(Sn.mk 10 30 yesF)]) (Ru.mk ⟨#[]⟩ ⟨#[]⟩ 4 15 20 (Fm.mk 0 ⟨#[]⟩ 0 0 []) 0 false ⟨#[]⟩)) ([(Sn.mk 10 15 yesF), (Sn.mk 20 30 yesF)])) && (decide (((((applyP ([(Sn.mk 10 (-1) yesF)]) (Ru.mk ⟨#[]⟩ ⟨#[]⟩ 3 0 10 (Fm.mk 0 ⟨#[]⟩ 0 0 []) 0 false ⟨#[]⟩)).map celS).length : Nat) : Int) = (0 : Int)))) && (all2 sameS Sn.z (applyP ([(Sn.mk 10 (-1) yesF)]) (Ru.mk ⟨#[]⟩ ⟨#[]⟩ 5 20 0 b36_l1 0 false ⟨#[]⟩)) ([(Sn.mk 10 20 yesF), (Sn.mk 20 (-1) b36_l1)]))) && (decide ((((countP ([(Ru.mk ⟨#[97]⟩ ⟨#[112]⟩ 1 0 0 (Fm.mk 0 ⟨#[]⟩ 0 0 []) 0 false ⟨#[]⟩), (liftR ⟨#[98]⟩ ⟨#[97]⟩), (liftR ⟨#[99]⟩ ⟨#[98]⟩)]) 0).1).getD 0 Ru.z).id = ⟨#[97]⟩))) = true) → (0 ≤ (1 : Int) ∧ (1 : Int) < ((((((countP ([(Ru.mk ⟨#[97]⟩ ⟨#[112]⟩ 1 0 0 (Fm.mk 0 ⟨#[]⟩ 0 0 []) 0 false ⟨#[]⟩), (liftR ⟨#[98]⟩ ⟨#[97]⟩), (liftR ⟨#[99]⟩ ⟨#[98]⟩)]) 0).1).map celR) : List (List TV)).length : Nat) : Int)), (((((all2 sameS Sn.z (applyP ([(Sn.mk 10 30 yesF)]) (Ru.mk ⟨#[]⟩ ⟨#[]⟩ 4 15 20 (Fm.mk 0 ⟨#[]⟩ 0 0 []) 0 false ⟨#[]⟩)) ([(Sn.mk 10 15 yesF), (Sn.mk 20 30 yesF)])) && (decide (((((applyP ([(Sn.mk 10 (-1) yesF)]) (Ru.mk ⟨#[]⟩ ⟨#[]⟩ 3 0 10 (Fm.mk 0 ⟨#[]⟩ 0 0 []) 0 false ⟨#[]⟩)).map celS).length : Nat) : Int) = (0 : Int)))) && (all2 sameS Sn.z (applyP ([(Sn.mk 10 (-1) yesF)]) (Ru.mk ⟨#[]⟩ ⟨#[]⟩ 5 20 0 b36_l1 0 false ⟨#[]⟩)) ([(Sn.mk 10 20 yesF), (Sn.mk 20 (-1) b36_l1)]))) && (decide ((((countP ([(Ru.mk ⟨#[97]⟩ ⟨#[112]⟩ 1 0 0 (Fm.mk 0 ⟨#[]⟩ 0 0 []) 0 false ⟨#[]⟩), (liftR ⟨#[98]⟩ ⟨#[97]⟩), (liftR ⟨#[99]⟩ ⟨#[98]⟩)]) 0).1).getD 0 Ru.z).id = ⟨#[97]⟩))) = true) → (.tv (.ptr (rowAt (((countP ([(Ru.mk ⟨#[97]⟩ ⟨#[112]⟩ 1 0 0 (Fm.mk 0 ⟨#[]⟩ 0 0 []) 0 false ⟨#[]⟩), (liftR ⟨#[98]⟩ ⟨#[97]⟩), (liftR ⟨#[99]⟩ ⟨#[98]⟩)]) 0).1).map celR) (1 : Int))) : AV) = .tv (.ptr (celR (((countP ([(Ru.mk ⟨#[97]⟩ ⟨#[112]⟩ 1 0 0 (Fm.mk 0 ⟨#[]⟩ 0 0 []) 0 false ⟨#[]⟩), (liftR ⟨#[98]⟩ ⟨#[97]⟩), (liftR ⟨#[99]⟩ ⟨#[98]⟩)]) 0).1).getD 1 Ru.z))), ((((((all2 sameS Sn.z (applyP ([(Sn.mk 10 30 yesF)]) (Ru.mk ⟨#[]⟩ ⟨#[]⟩ 4 15 20 (Fm.mk 0 ⟨#[]⟩ 0 0 []) 0 false ⟨#[]⟩)) ([(Sn.mk 10 15 yesF), (Sn.mk 20 30 yesF)])) && (decide (((((applyP ([(Sn.mk 10 (-1) yesF)]) (Ru.mk ⟨#[]⟩ ⟨#[]⟩ 3 0 10 (Fm.mk 0 ⟨#[]⟩ 0 0 []) 0 false ⟨#[]⟩)).map celS).length : Nat) : Int) = (0 : Int)))) && (all2 sameS Sn.z (applyP ([(Sn.mk 10 (-1) yesF)]) (Ru.mk ⟨#[]⟩ ⟨#[]⟩ 5 20 0 b36_l1 0 false ⟨#[]⟩)) ([(Sn.mk 10 20 yesF), (Sn.mk 20 (-1) b36_l1)]))) && (decide ((((countP ([(Ru.mk ⟨#[97]⟩ ⟨#[112]⟩ 1 0 0 (Fm.mk 0 ⟨#[]⟩ 0 0 []) 0 false ⟨#[]⟩), (liftR ⟨#[98]⟩ ⟨#[97]⟩), (liftR ⟨#[99]⟩ ⟨#[98]⟩)]) 0).1).getD 0 Ru.z).id = ⟨#[97]⟩))) && (decide ((((countP ([(Ru.mk ⟨#[97]⟩ ⟨#[112]⟩ 1 0 0 (Fm.mk 0 ⟨#[]⟩ 0 0 []) 0 false ⟨#[]⟩), (liftR ⟨#[98]⟩ ⟨#[97]⟩), (liftR ⟨#[99]⟩ ⟨#[98]⟩)]) 0).1).getD 1 Ru.z).id = ⟨#[99]⟩))) = true) → (0 ≤ (0 : Int) ∧ (0 : Int) < ((((((countP ([(Ru.mk ⟨#[97]⟩ ⟨#[112]⟩ 1 0 0 (Fm.mk 0 ⟨#[]⟩ 0 0 []) 0 true ⟨#[]⟩), (liftR ⟨#[98]⟩ ⟨#[97]⟩)]) 0).1).map celR) : List (List TV)).length : Nat) : Int)), ((((((all2 sameS Sn.z (applyP ([(Sn.mk 10 30 yesF)]) (Ru.mk ⟨#[]⟩ ⟨#[]⟩ 4 15 20 (Fm.mk 0 ⟨#[]⟩ 0 0 []) 0 false ⟨#[]⟩)) ([(Sn.mk 10 15 yesF), (Sn.mk 20 30 yesF)])) && (decide (((((applyP ([(Sn.mk 10 (-1) yesF)]) (Ru.mk ⟨#[]⟩ ⟨#[]⟩ 3 0 10 (Fm.mk 0 ⟨#[]⟩ 0 0 []) 0 false ⟨#[]⟩)).map celS).length : Nat) : Int) = (0 : Int)))) && (all2 sameS Sn.z (applyP ([(Sn.mk 10 (-1) yesF)]) (Ru.mk ⟨#[]⟩ ⟨#[]⟩ 5 20 0 b36_l1 0 false ⟨#[]⟩)) ([(Sn.mk 10 20 yesF), (Sn.mk 20 (-1) b36_l1)]))) && (decide ((((countP ([(Ru.mk ⟨#[97]⟩ ⟨#[112]⟩ 1 0 0 (Fm.mk 0 ⟨#[]⟩ 0 0 []) 0 false ⟨#[]⟩), (liftR ⟨#[98]⟩ ⟨#[97]⟩), (liftR ⟨#[99]⟩ ⟨#[98]⟩)]) 0).1).getD 0 Ru.z).id = ⟨#[97]⟩))) && (decide ((((countP ([(Ru.mk ⟨#[97]⟩ ⟨#[112]⟩ 1 0 0 (Fm.mk 0 ⟨#[]⟩ 0 0 []) 0 false ⟨#[]⟩), (liftR ⟨#[98]⟩ ⟨#[97]⟩), (liftR ⟨#[99]⟩ ⟨#[98]⟩)]) 0).1).getD 1 Ru.z).id = ⟨#[99]⟩))) = true) → (.tv (.ptr (rowAt (((countP ([(Ru.mk ⟨#[97]⟩ ⟨#[112]⟩ 1 0 0 (Fm.mk 0 ⟨#[]⟩ 0 0 []) 0 true ⟨#[]⟩), (liftR ⟨#[98]⟩ ⟨#[97]⟩)]) 0).1).map celR) (0 : Int))) : AV) = .tv (.ptr (celR (((countP ([(Ru.mk ⟨#[97]⟩ ⟨#[112]⟩ 1 0 0 (Fm.mk 0 ⟨#[]⟩ 0 0 []) 0 true ⟨#[]⟩), (liftR ⟨#[98]⟩ ⟨#[97]⟩)]) 0).1).getD 0 Ru.z))), ((((((((all2 sameS Sn.z (applyP ([(Sn.mk 10 30 yesF)]) (Ru.mk ⟨#[]⟩ ⟨#[]⟩ 4 15 20 (Fm.mk 0 ⟨#[]⟩ 0 0 []) 0 false ⟨#[]⟩)) ([(Sn.mk 10 15 yesF), (Sn.mk 20 30 yesF)])) && (decide (((((applyP ([(Sn.mk 10 (-1) yesF)]) (Ru.mk ⟨#[]⟩ ⟨#[]⟩ 3 0 10 (Fm.mk 0 ⟨#[]⟩ 0 0 []) 0 false ⟨#[]⟩)).map celS).length : Nat) : Int) = (0 : Int)))) && (all2 sameS Sn.z (applyP ([(Sn.mk 10 (-1) yesF)]) (Ru.mk ⟨#[]⟩ ⟨#[]⟩ 5 20 0 b36_l1 0 false ⟨#[]⟩)) ([(Sn.mk 10 20 yesF), (Sn.mk 20 (-1) b36_l1)]))) && (decide ((((countP ([(Ru.mk ⟨#[97]⟩ ⟨#[112]⟩ 1 0 0 (Fm.mk 0 ⟨#[]⟩ 0 0 []) 0 false ⟨#[]⟩), (liftR ⟨#[98]⟩ ⟨#[97]⟩), (liftR ⟨#[99]⟩ ⟨#[98]⟩)]) 0).1).getD 0 Ru.z).id = ⟨#[97]⟩))) && (decide ((((countP ([(Ru.mk ⟨#[97]⟩ ⟨#[112]⟩ 1 0 0 (Fm.mk 0 ⟨#[]⟩ 0 0 []) 0 false ⟨#[]⟩), (liftR ⟨#[98]⟩ ⟨#[97]⟩), (liftR ⟨#[99]⟩ ⟨#[98]⟩)]) 0).1).getD 1 Ru.z).id = ⟨#[99]⟩))) && (decide ((((countP ([(Ru.mk ⟨#[97]⟩ ⟨#[112]⟩ 1 0 0 (Fm.mk 0 ⟨#[]⟩ 0 0 []) 0 true ⟨#[]⟩), (liftR ⟨#[98]⟩ ⟨#[97]⟩)]) 0).1).getD 0 Ru.z).id = ⟨#[97]⟩))) && (decide ((countP ([(Ru.mk ⟨#[97]⟩ ⟨#[112]⟩ 1 0 0 (Fm.mk 0 ⟨#[]⟩ 0 0 []) 0 false ⟨#[]⟩), (Ru.mk ⟨#[97]⟩ ⟨#[112]⟩ 1 0 0 (Fm.mk 0 ⟨#[]⟩ 0 0 []) 0 false ⟨#[]⟩)]) 0).2 = (9 : Int)))) = true) → PureCall Tryd.prog 41 [.agg [.tv (.str ⟨#[97]⟩), .tv (.str ⟨#[112]⟩), .i 1, .i 0, .i 0, .i 0, .tv (.str ⟨#[]⟩), .i 0, .i 0, .tv .nils, .i 0, .b false, .tv (.str ⟨#[]⟩)]] (.b (validP (Ru.mk ⟨#[97]⟩ ⟨#[112]⟩ 1 0 0 (Fm.mk 0 ⟨#[]⟩ 0 0 []) 0 false ⟨#[]⟩))), (((((((((all2 sameS Sn.z (applyP ([(Sn.mk 10 30 yesF)]) (Ru.mk ⟨#[]⟩ ⟨#[]⟩ 4 15 20 (Fm.mk 0 ⟨#[]⟩ 0 0 []) 0 false ⟨#[]⟩)) ([(Sn.mk 10 15 yesF), (Sn.mk 20 30 yesF)])) && (decide (((((applyP ([(Sn.mk 10 (-1) yesF)]) (Ru.mk ⟨#[]⟩ ⟨#[]⟩ 3 0 10 (Fm.mk 0 ⟨#[]⟩ 0 0 []) 0 false ⟨#[]⟩)).map celS).length : Nat) : Int) = (0 : Int)))) && (all2 sameS Sn.z (applyP ([(Sn.mk 10 (-1) yesF)]) (Ru.mk ⟨#[]⟩ ⟨#[]⟩ 5 20 0 b36_l1 0 false ⟨#[]⟩)) ([(Sn.mk 10 20 yesF), (Sn.mk 20 (-1) b36_l1)]))) && (decide ((((countP ([(Ru.mk ⟨#[97]⟩ ⟨#[112]⟩ 1 0 0 (Fm.mk 0 ⟨#[]⟩ 0 0 []) 0 false ⟨#[]⟩), (liftR ⟨#[98]⟩ ⟨#[97]⟩), (liftR ⟨#[99]⟩ ⟨#[98]⟩)]) 0).1).getD 0 Ru.z).id = ⟨#[97]⟩))) && (decide ((((countP ([(Ru.mk ⟨#[97]⟩ ⟨#[112]⟩ 1 0 0 (Fm.mk 0 ⟨#[]⟩ 0 0 []) 0 false ⟨#[]⟩), (liftR ⟨#[98]⟩ ⟨#[97]⟩), (liftR ⟨#[99]⟩ ⟨#[98]⟩)]) 0).1).getD 1 Ru.z).id = ⟨#[99]⟩))) && (decide ((((countP ([(Ru.mk ⟨#[97]⟩ ⟨#[112]⟩ 1 0 0 (Fm.mk 0 ⟨#[]⟩ 0 0 []) 0 true ⟨#[]⟩), (liftR ⟨#[98]⟩ ⟨#[97]⟩)]) 0).1).getD 0 Ru.z).id = ⟨#[97]⟩))) && (decide ((countP ([(Ru.mk ⟨#[97]⟩ ⟨#[112]⟩ 1 0 0 (Fm.mk 0 ⟨#[]⟩ 0 0 []) 0 false ⟨#[]⟩), (Ru.mk ⟨#[97]⟩ ⟨#[112]⟩ 1 0 0 (Fm.mk 0 ⟨#[]⟩ 0 0 []) 0 false ⟨#[]⟩)]) 0).2 = (9 : Int)))) && (validP (Ru.mk ⟨#[97]⟩ ⟨#[112]⟩ 1 0 0 (Fm.mk 0 ⟨#[]⟩ 0 0 []) 0 false ⟨#[]⟩))) = true) → PureCall Tryd.prog 65 [.tv (.str ⟨#[98]⟩), .tv (.str ⟨#[]⟩)] (agR (liftR ⟨#[98]⟩ ⟨#[]⟩)), (((((((((all2 sameS Sn.z (applyP ([(Sn.mk 10 30 yesF)]) (Ru.mk ⟨#[]⟩ ⟨#[]⟩ 4 15 20 (Fm.mk 0 ⟨#[]⟩ 0 0 []) 0 false ⟨#[]⟩)) ([(Sn.mk 10 15 yesF), (Sn.mk 20 30 yesF)])) && (decide (((((applyP ([(Sn.mk 10 (-1) yesF)]) (Ru.mk ⟨#[]⟩ ⟨#[]⟩ 3 0 10 (Fm.mk 0 ⟨#[]⟩ 0 0 []) 0 false ⟨#[]⟩)).map celS).length : Nat) : Int) = (0 : Int)))) && (all2 sameS Sn.z (applyP ([(Sn.mk 10 (-1) yesF)]) (Ru.mk ⟨#[]⟩ ⟨#[]⟩ 5 20 0 b36_l1 0 false ⟨#[]⟩)) ([(Sn.mk 10 20 yesF), (Sn.mk 20 (-1) b36_l1)]))) && (decide ((((countP ([(Ru.mk ⟨#[97]⟩ ⟨#[112]⟩ 1 0 0 (Fm.mk 0 ⟨#[]⟩ 0 0 []) 0 false ⟨#[]⟩), (liftR ⟨#[98]⟩ ⟨#[97]⟩), (liftR ⟨#[99]⟩ ⟨#[98]⟩)]) 0).1).getD 0 Ru.z).id = ⟨#[97]⟩))) && (decide ((((countP ([(Ru.mk ⟨#[97]⟩ ⟨#[112]⟩ 1 0 0 (Fm.mk 0 ⟨#[]⟩ 0 0 []) 0 false ⟨#[]⟩), (liftR ⟨#[98]⟩ ⟨#[97]⟩), (liftR ⟨#[99]⟩ ⟨#[98]⟩)]) 0).1).getD 1 Ru.z).id = ⟨#[99]⟩))) && (decide ((((countP ([(Ru.mk ⟨#[97]⟩ ⟨#[112]⟩ 1 0 0 (Fm.mk 0 ⟨#[]⟩ 0 0 []) 0 true ⟨#[]⟩), (liftR ⟨#[98]⟩ ⟨#[97]⟩)]) 0).1).getD 0 Ru.z).id = ⟨#[97]⟩))) && (decide ((countP ([(Ru.mk ⟨#[97]⟩ ⟨#[112]⟩ 1 0 0 (Fm.mk 0 ⟨#[]⟩ 0 0 []) 0 false ⟨#[]⟩), (Ru.mk ⟨#[97]⟩ ⟨#[112]⟩ 1 0 0 (Fm.mk 0 ⟨#[]⟩ 0 0 []) 0 false ⟨#[]⟩)]) 0).2 = (9 : Int)))) && (validP (Ru.mk ⟨#[97]⟩ ⟨#[112]⟩ 1 0 0 (Fm.mk 0 ⟨#[]⟩ 0 0 []) 0 false ⟨#[]⟩))) = true) → PureCall Tryd.prog 41 [agR (liftR ⟨#[98]⟩ ⟨#[]⟩)] (.b (validP (liftR ⟨#[98]⟩ ⟨#[]⟩)))] [(1000000, .any), (0, .b (((((((((all2 sameS Sn.z (applyP ([(Sn.mk 10 30 yesF)]) (Ru.mk ⟨#[]⟩ ⟨#[]⟩ 4 15 20 (Fm.mk 0 ⟨#[]⟩ 0 0 []) 0 false ⟨#[]⟩)) ([(Sn.mk 10 15 yesF), (Sn.mk 20 30 yesF)])) && (decide (((((applyP ([(Sn.mk 10 (-1) yesF)]) (Ru.mk ⟨#[]⟩ ⟨#[]⟩ 3 0 10 (Fm.mk 0 ⟨#[]⟩ 0 0 []) 0 false ⟨#[]⟩)).map celS).length : Nat) : Int) = (0 : Int)))) && (all2 sameS Sn.z (applyP ([(Sn.mk 10 (-1) yesF)]) (Ru.mk ⟨#[]⟩ ⟨#[]⟩ 5 20 0 b36_l1 0 false ⟨#[]⟩)) ([(Sn.mk 10 20 yesF), (Sn.mk 20 (-1) b36_l1)]))) && (decide ((((countP ([(Ru.mk ⟨#[97]⟩ ⟨#[112]⟩ 1 0 0 (Fm.mk 0 ⟨#[]⟩ 0 0 []) 0 false ⟨#[]⟩), (liftR ⟨#[98]⟩ ⟨#[97]⟩), (liftR ⟨#[99]⟩ ⟨#[98]⟩)]) 0).1).getD 0 Ru.z).id = ⟨#[97]⟩))) && (decide ((((countP ([(Ru.mk ⟨#[97]⟩ ⟨#[112]⟩ 1 0 0 (Fm.mk 0 ⟨#[]⟩ 0 0 []) 0 false ⟨#[]⟩), (liftR ⟨#[98]⟩ ⟨#[97]⟩), (liftR ⟨#[99]⟩ ⟨#[98]⟩)]) 0).1).getD 1 Ru.z).id = ⟨#[99]⟩))) && (decide ((((countP ([(Ru.mk ⟨#[97]⟩ ⟨#[112]⟩ 1 0 0 (Fm.mk 0 ⟨#[]⟩ 0 0 []) 0 true ⟨#[]⟩), (liftR ⟨#[98]⟩ ⟨#[97]⟩)]) 0).1).getD 0 Ru.z).id = ⟨#[97]⟩))) && (decide ((countP ([(Ru.mk ⟨#[97]⟩ ⟨#[112]⟩ 1 0 0 (Fm.mk 0 ⟨#[]⟩ 0 0 []) 0 false ⟨#[]⟩), (Ru.mk ⟨#[97]⟩ ⟨#[112]⟩ 1 0 0 (Fm.mk 0 ⟨#[]⟩ 0 0 []) 0 false ⟨#[]⟩)]) 0).2 = (9 : Int)))) && (validP (Ru.mk ⟨#[97]⟩ ⟨#[112]⟩ 1 0 0 (Fm.mk 0 ⟨#[]⟩ 0 0 []) 0 false ⟨#[]⟩))) && (!(validP (liftR ⟨#[98]⟩ ⟨#[]⟩)))))] [b36_2, b36_1, b36_3] 135 (by kernel_rfl) ?_ ?_
  ·exact ⟨fun hg0 => by (try simp only [brs, lns] at *); omega, fun hg0 => congrArg (fun c => AV.tv (.ptr c)) (row_R ((countP ([(Ru.mk ⟨#[97]⟩ ⟨#[112]⟩ 1 0 0 (Fm.mk 0 ⟨#[]⟩ 0 0 []) 0 false ⟨#[]⟩), (liftR ⟨#[98]⟩ ⟨#[97]⟩), (liftR ⟨#[99]⟩ ⟨#[98]⟩)]) 0).1) (0 : Int) (by (try simp only [brs, lns] at *); omega)), fun hg0 => by (try simp only [brs, lns] at *); omega, fun hg0 => congrArg (fun c => AV.tv (.ptr c)) (row_R ((countP ([(Ru.mk ⟨#[97]⟩ ⟨#[112]⟩ 1 0 0 (Fm.mk 0 ⟨#[]⟩ 0 0 []) 0 false ⟨#[]⟩), (liftR ⟨#[98]⟩ ⟨#[97]⟩), (liftR ⟨#[99]⟩ ⟨#[98]⟩)]) 0).1) (1 : Int) (by (try simp only [brs, lns] at *); omega)), fun hg0 => by (try simp only [brs, lns] at *); omega, fun hg0 => congrArg (fun c => AV.tv (.ptr c)) (row_R ((countP ([(Ru.mk ⟨#[97]⟩ ⟨#[112]⟩ 1 0 0 (Fm.mk 0 ⟨#[]⟩ 0 0 []) 0 true ⟨#[]⟩), (liftR ⟨#[98]⟩ ⟨#[97]⟩)]) 0).1) (0 : Int) (by (try simp only [brs, lns] at *); omega)), fun hg0 => ((c41 (Ru.mk ⟨#[97]⟩ ⟨#[112]⟩ 1 0 0 (Fm.mk 0 ⟨#[]⟩ 0 0 []) 0 false ⟨#[]⟩))).arg (.cons (Le.agg (.cons (Le.refl _) (.cons (Le.refl _) (.cons (Le.refl _) (.cons (Le.refl _) (.cons (Le.refl _) (.cons (Le.refl _) (.cons (Le.refl _) (.cons (Le.refl _) (.cons (Le.refl _) (.cons (Le.nils 5) (.cons (Le.refl _) (.cons (Le.refl _) (.cons (Le.refl _) .nil)))))))))))))) .nil), fun hg0 => (c65 ⟨#[98]⟩ ⟨#[]⟩), fun hg0 => (c41 (liftR ⟨#[98]⟩ ⟨#[]⟩)), trivial⟩
  refine at_ret ?_
  refine fin0 (.inr rfl) (.b (((((((((all2 sameS Sn.z (applyP ([(Sn.mk 10 30 yesF)]) (Ru.mk ⟨#[]⟩ ⟨#[]⟩ 4 15 20 (Fm.mk 0 ⟨#[]⟩ 0 0 []) 0 false ⟨#[]⟩)) ([(Sn.mk 10 15 yesF), (Sn.mk 20 30 yesF)])) && (decide (((((applyP ([(Sn.mk 10 (-1) yesF)]) (Ru.mk ⟨#[]⟩ ⟨#[]⟩ 3 0 10 (Fm.mk 0 ⟨#[]⟩ 0 0 []) 0 false ⟨#[]⟩)).map celS).length : Nat) : Int) = (0 : Int)))) && (all2 sameS Sn.z (applyP ([(Sn.mk 10 (-1) yesF)]) (Ru.mk ⟨#[]⟩ ⟨#[]⟩ 5 20 0 b36_l1 0 false ⟨#[]⟩)) ([(Sn.mk 10 20 yesF), (Sn.mk 20 (-1) b36_l1)]))) && (decide ((((countP ([(Ru.mk ⟨#[97]⟩ ⟨#[112]⟩ 1 0 0 (Fm.mk 0 ⟨#[]⟩ 0 0 []) 0 false ⟨#[]⟩), (liftR ⟨#[98]⟩ ⟨#[97]⟩), (liftR ⟨#[99]⟩ ⟨#[98]⟩)]) 0).1).getD 0 Ru.z).id = ⟨#[97]⟩))) && (decide ((((countP ([(Ru.mk ⟨#[97]⟩ ⟨#[112]⟩ 1 0 0 (Fm.mk 0 ⟨#[]⟩ 0 0 []) 0 false ⟨#[]⟩), (liftR ⟨#[98]⟩ ⟨#[97]⟩), (liftR ⟨#[99]⟩ ⟨#[98]⟩)]) 0).1).getD 1 Ru.z).id = ⟨#[99]⟩))) && (decide ((((countP ([(Ru.mk ⟨#[97]⟩ ⟨#[112]⟩ 1 0 0 (Fm.mk 0 ⟨#[]⟩ 0 0 []) 0 true ⟨#[]⟩), (liftR ⟨#[98]⟩ ⟨#[97]⟩)]) 0).1).getD 0 Ru.z).id = ⟨#[97]⟩))) && (decide ((countP ([(Ru.mk ⟨#[97]⟩ ⟨#[112]⟩ 1 0 0 (Fm.mk 0 ⟨#[]⟩ 0 0 []) 0 false ⟨#[]⟩), (Ru.mk ⟨#[97]⟩ ⟨#[112]⟩ 1 0 0 (Fm.mk 0 ⟨#[]⟩ 0 0 []) 0 false ⟨#[]⟩)]) 0).2 = (9 : Int)))) && (validP (Ru.mk ⟨#[97]⟩ ⟨#[112]⟩ 1 0 0 (Fm.mk 0 ⟨#[]⟩ 0 0 []) 0 false ⟨#[]⟩))) && (!(validP (liftR ⟨#[98]⟩ ⟨#[]⟩))))) [b36_2, b36_1, b36_3] (.b (((((((((all2 sameS Sn.z (applyP ([(Sn.mk 10 30 yesF)]) (Ru.mk ⟨#[]⟩ ⟨#[]⟩ 4 15 20 (Fm.mk 0 ⟨#[]⟩ 0 0 []) 0 false ⟨#[]⟩)) ([(Sn.mk 10 15 yesF), (Sn.mk 20 30 yesF)])) && (decide (((((applyP ([(Sn.mk 10 (-1) yesF)]) (Ru.mk ⟨#[]⟩ ⟨#[]⟩ 3 0 10 (Fm.mk 0 ⟨#[]⟩ 0 0 []) 0 false ⟨#[]⟩)).map celS).length : Nat) : Int) = (0 : Int)))) && (all2 sameS Sn.z (applyP ([(Sn.mk 10 (-1) yesF)]) (Ru.mk ⟨#[]⟩ ⟨#[]⟩ 5 20 0 b36_l1 0 false ⟨#[]⟩)) ([(Sn.mk 10 20 yesF), (Sn.mk 20 (-1) b36_l1)]))) && (decide ((((countP ([(Ru.mk ⟨#[97]⟩ ⟨#[112]⟩ 1 0 0 (Fm.mk 0 ⟨#[]⟩ 0 0 []) 0 false ⟨#[]⟩), (liftR ⟨#[98]⟩ ⟨#[97]⟩), (liftR ⟨#[99]⟩ ⟨#[98]⟩)]) 0).1).getD 0 Ru.z).id = ⟨#[97]⟩))) && (decide ((((countP ([(Ru.mk ⟨#[97]⟩ ⟨#[112]⟩ 1 0 0 (Fm.mk 0 ⟨#[]⟩ 0 0 []) 0 false ⟨#[]⟩), (liftR ⟨#[98]⟩ ⟨#[97]⟩), (liftR ⟨#[99]⟩ ⟨#[98]⟩)]) 0).1).getD 1 Ru.z).id = ⟨#[99]⟩))) && (decide ((((countP ([(Ru.mk ⟨#[97]⟩ ⟨#[112]⟩ 1 0 0 (Fm.mk 0 ⟨#[]⟩ 0 0 []) 0 true ⟨#[]⟩), (liftR ⟨#[98]⟩ ⟨#[97]⟩)]) 0).1).getD 0 Ru.z).id = ⟨#[97]⟩))) && (decide ((countP ([(Ru.mk ⟨#[97]⟩ ⟨#[112]⟩ 1 0 0 (Fm.mk 0 ⟨#[]⟩ 0 0 []) 0 false ⟨#[]⟩), (Ru.mk ⟨#[97]⟩ ⟨#[112]⟩ 1 0 0 (Fm.mk 0 ⟨#[]⟩ 0 0 []) 0 false ⟨#[]⟩)]) 0).2 = (9 : Int)))) && (validP (Ru.mk ⟨#[97]⟩ ⟨#[112]⟩ 1 0 0 (Fm.mk 0 ⟨#[]⟩ 0 0 []) 0 false ⟨#[]⟩))) && (!(validP (liftR ⟨#[98]⟩ ⟨#[]⟩))))) (H2 := [b36_2, b36_1, b36_3]) (by kernel_rfl) (by kernel_rfl) ?_
  refine Le.of_eq ?_
  first | rfl | (simp only [headB, hc73, cond_true, cond_false]; done) | (simp only [headB, hc73, cond_true, cond_false]; rfl)
end Go.Proofs.YtphmhelkojdlaaaDoor
