/- Part M5 of the proof. -/
import Derived.Test.YtphmhelkojdlaaaDoorM4
namespace Go.Proofs.YtphmhelkojdlaaaDoor
open Go.RowKit
set_option maxRecDepth 10000
set_option linter.unusedSimpArgs false
set_option linter.unusedVariables false
def formedC (f : Fm) : Bool := bif (((!decide (f.op = (3 : Int))) && ((!decide (f.cm = (0 : Int))) || (!decide (f.n = (0 : Int))))) || (((!decide (f.op = (3 : Int))) && (!decide (f.op = (4 : Int)))) && (!decide (f.nm = ⟨#[]⟩)))) then (false) else (bif (bif (decide (f.op = (1 : Int))) then (decide (f.op = (1 : Int))) else (decide (f.op = (2 : Int)))) then ((decide ((((f.ks.map encF).length : Nat) : Int) = (0 : Int)))) else (bif (decide (f.op = (3 : Int))) then (((((decide ((((f.ks.map encF).length : Nat) : Int) = (0 : Int))) && (nameP f.nm)) && (decide ((1 : Int) ≤ f.cm))) && (decide (f.cm ≤ (6 : Int))))) else (bif (decide (f.op = (4 : Int))) then (((decide ((((f.ks.map encF).length : Nat) : Int) = (0 : Int))) && (nameP f.nm))) else (bif (decide (f.op = (5 : Int))) then ((decide ((((f.ks.map encF).length : Nat) : Int) = (1 : Int)))) else (bif (bif (decide (f.op = (6 : Int))) then (decide (f.op = (6 : Int))) else (decide (f.op = (7 : Int)))) then ((decide ((2 : Int) ≤ (((f.ks.map encF).length : Nat) : Int)))) else (false))))))
theorem c71a (f : Fm)  : PureCall Tryd.prog 71 [agF f] (.b (formedC f)) := by
 refine walk0 (fn := Tryd.f71) [.tmp 2] Tryd.func71 rfl (by kernel_rfl) rfl (by kernel_rfl) (by kernel_rfl) ?_
 change AT _ _ _ ⟨[(0, agF f)], [], [], 0⟩
 refine at_agF 0 rfl (fun hlen => ?_)
 refine at_B [1] [] [] [(1000000, .any), (1, .ptr [0] 0)] [([0], .row ((celF f).map .tv) false)] 2 (by kernel_rfl) ?_ ?_
 ·exact trivial
 refine at_B [1, 3] [] [] [(1000000, .any), (1, .ptr [0] 0), (3, .i (((f.ks.map encF).length : Nat) : Int))] [([0], .row ((celF f).map .tv) false)] 6 (by kernel_rfl) ?_ ?_
 ·exact trivial
 refine at_seq ?_
 refine at_B [1, 3, 34] [] [] [(1000000, .any), (1, .ptr [0] 0), (3, .i (((f.ks.map encF).length : Nat) : Int)), (34, .b (((!decide (f.op = (3 : Int))) && ((!decide (f.cm = (0 : Int))) || (!decide (f.n = (0 : Int))))) || (((!decide (f.op = (3 : Int))) && (!decide (f.op = (4 : Int)))) && (!decide (f.nm = ⟨#[]⟩)))))] [([0], .row ((celF f).map .tv) false)] 34 (by kernel_rfl) ?_ ?_
 ·exact trivial
 refine at_cond (b := (((!decide (f.op = (3 : Int))) && ((!decide (f.cm = (0 : Int))) || (!decide (f.n = (0 : Int))))) || (((!decide (f.op = (3 : Int))) && (!decide (f.op = (4 : Int)))) && (!decide (f.nm = ⟨#[]⟩))))) rfl rfl (fun hc34 => ?_) (fun hc34 => ?_)
 ·have q34 := hc34
  (try simp only [brs] at q34)
  refine at_B [2] [] [] [(1000000, .any), (2, .b false)] [([0], .row ((celF f).map .tv) false)] 35 (by kernel_rfl) ?_ ?_
  ·exact trivial
  refine at_ret ?_
  refine fin0 (.inr rfl) (.b false) [([0], .row ((celF f).map .tv) false)] (.b false) (H2 := [([0], .row ((celF f).map .tv) false)]) (by kernel_rfl) (by kernel_rfl) ?_
  refine Le.of_eq ?_
  first | rfl | (simp only [formedC, hc34, cond_true, cond_false]; done) | (simp only [formedC, hc34, cond_true, cond_false]; rfl) | (rw [formedC, hc34]; rfl)
 ·have q34 := hc34
  (try simp only [brs] at q34)
  refine at_skip ?_
  change AT _ _ _ _
  refine at_seq ?_
  refine at_B [1, 3, 36] [] [] [(1000000, .any), (1, .ptr [0] 0), (3, .i (((f.ks.map encF).length : Nat) : Int)), (36, .i f.op)] [([0], .row ((celF f).map .tv) false)] 36 (by kernel_rfl) ?_ ?_
  ·exact trivial
  refine at_block ?_
  refine at_seq ?_
  refine at_B [1, 3, 36, 37] [] [] [(1000000, .any), (1, .ptr [0] 0), (3, .i (((f.ks.map encF).length : Nat) : Int)), (36, .i f.op), (37, .b (decide (f.op = (1 : Int))))] [([0], .row ((celF f).map .tv) false)] 38 (by kernel_rfl) ?_ ?_
  ·exact trivial
  refine at_mergel (p := []) [(1000000, .any), (1, .ptr [0] 0), (3, .i (((f.ks.map encF).length : Nat) : Int)), (36, .i f.op), (37, .b (bif (decide (f.op = (1 : Int))) then (decide (f.op = (1 : Int))) else (decide (f.op = (2 : Int)))))] [([0], .row ((celF f).map .tv) false)] 40 ?_ ?_
  ·refine at_cond (b := (decide (f.op = (1 : Int)))) rfl rfl (fun hc37 => ?_) (fun hc37 => ?_)
   ·skip
    refine at_skip ?_
    exact gh_merge [1, 3, 36, 37] [[0]] (Eq.trans (b := [(1000000, .any), (1, .ptr [0] 0), (3, .i (((f.ks.map encF).length : Nat) : Int)), (36, .i f.op), (37, .b (decide (f.op = (1 : Int))))]) (by kernel_rfl) (by simp only [hc37, cond_true, cond_false]; try rfl)) (by kernel_rfl) (by kernel_rfl)
   ·skip
    refine at_Bl [1, 3, 36, 37] [] [] [(1000000, .any), (1, .ptr [0] 0), (3, .i (((f.ks.map encF).length : Nat) : Int)), (36, .i f.op), (37, .b (decide (f.op = (2 : Int))))] [([0], .row ((celF f).map .tv) false)] 40 (by kernel_rfl) ?_ ?_
    ·exact trivial
    exact gh_merge [1, 3, 36, 37] [[0]] (Eq.trans (b := [(1000000, .any), (1, .ptr [0] 0), (3, .i (((f.ks.map encF).length : Nat) : Int)), (36, .i f.op), (37, .b (decide (f.op = (2 : Int))))]) (by kernel_rfl) (by simp only [hc37, cond_true, cond_false]; try rfl)) (by kernel_rfl) (by kernel_rfl)
  change AT _ _ _ _
  refine at_cond (b := (bif (decide (f.op = (1 : Int))) then (decide (f.op = (1 : Int))) else (decide (f.op = (2 : Int))))) rfl rfl (fun hc37 => ?_) (fun hc37 => ?_)
  ·have q37 := hc37
   (try simp only [brs] at q37)
   refine at_B [2] [] [] [(1000000, .any), (2, .b (decide ((((f.ks.map encF).length : Nat) : Int) = (0 : Int))))] [([0], .row ((celF f).map .tv) false)] 43 (by kernel_rfl) ?_ ?_
   ·exact trivial
   refine at_ret ?_
   refine fin0 (.inr rfl) (.b (decide ((((f.ks.map encF).length : Nat) : Int) = (0 : Int)))) [([0], .row ((celF f).map .tv) false)] (.b (decide ((((f.ks.map encF).length : Nat) : Int) = (0 : Int)))) (H2 := [([0], .row ((celF f).map .tv) false)]) (by kernel_rfl) (by kernel_rfl) ?_
   refine Le.of_eq ?_
   first | rfl | (simp only [formedC, hc34, hc37, cond_true, cond_false]; done) | (simp only [formedC, hc34, hc37, cond_true, cond_false]; rfl) | (rw [formedC, hc34, hc37]; rfl)
  ·have q37 := hc37
   (try simp only [brs] at q37)
   refine at_B [1, 3, 36, 42] [] [] [(1000000, .any), (1, .ptr [0] 0), (3, .i (((f.ks.map encF).length : Nat) : Int)), (36, .i f.op), (42, .b (decide (f.op = (3 : Int))))] [([0], .row ((celF f).map .tv) false)] 42 (by kernel_rfl) ?_ ?_
   ·exact trivial
   refine at_cond (b := (decide (f.op = (3 : Int)))) rfl rfl (fun hc42 => ?_) (fun hc42 => ?_)
   ·have q42 := hc42
    (try simp only [brs] at q42)
    refine at_B [2] [.std, .std, .std, .std, .std, .ret (.b (nameP f.nm))] [((decide ((((f.ks.map encF).length : Nat) : Int) = (0 : Int))) = true) → PureCall Tryd.prog 88 [.tv (.str f.nm)] (.b (nameP f.nm))] [(1000000, .any), (2, .b ((((decide ((((f.ks.map encF).length : Nat) : Int) = (0 : Int))) && (nameP f.nm)) && (decide ((1 : Int) ≤ f.cm))) && (decide (f.cm ≤ (6 : Int)))))] [([0], .row ((celF f).map .tv) false)] 60 (by kernel_rfl) ?_ ?_
    ·exact ⟨fun hg0 => (c88 f.nm), trivial⟩
    refine at_ret ?_
    refine fin0 (.inr rfl) (.b ((((decide ((((f.ks.map encF).length : Nat) : Int) = (0 : Int))) && (nameP f.nm)) && (decide ((1 : Int) ≤ f.cm))) && (decide (f.cm ≤ (6 : Int))))) [([0], .row ((celF f).map .tv) false)] (.b ((((decide ((((f.ks.map encF).length : Nat) : Int) = (0 : Int))) && (nameP f.nm)) && (decide ((1 : Int) ≤ f.cm))) && (decide (f.cm ≤ (6 : Int))))) (H2 := [([0], .row ((celF f).map .tv) false)]) (by kernel_rfl) (by kernel_rfl) ?_
    refine Le.of_eq ?_
    first | rfl | (simp only [formedC, hc34, hc37, hc42, cond_true, cond_false]; done) | (simp only [formedC, hc34, hc37, hc42, cond_true, cond_false]; rfl) | (rw [formedC, hc34, hc37, hc42]; rfl)
   ·have q42 := hc42
    (try simp only [brs] at q42)
    refine at_B [1, 3, 36, 61] [] [] [(1000000, .any), (1, .ptr [0] 0), (3, .i (((f.ks.map encF).length : Nat) : Int)), (36, .i f.op), (61, .b (decide (f.op = (4 : Int))))] [([0], .row ((celF f).map .tv) false)] 44 (by kernel_rfl) ?_ ?_
    ·exact trivial
    refine at_cond (b := (decide (f.op = (4 : Int)))) rfl rfl (fun hc61 => ?_) (fun hc61 => ?_)
    ·have q61 := hc61
     (try simp only [brs] at q61)
     refine at_B [2] [.std, .std, .std, .std, .std, .ret (.b (nameP f.nm))] [((decide ((((f.ks.map encF).length : Nat) : Int) = (0 : Int))) = true) → PureCall Tryd.prog 88 [.tv (.str f.nm)] (.b (nameP f.nm))] [(1000000, .any), (2, .b ((decide ((((f.ks.map encF).length : Nat) : Int) = (0 : Int))) && (nameP f.nm)))] [([0], .row ((celF f).map .tv) false)] 52 (by kernel_rfl) ?_ ?_
     ·exact ⟨fun hg0 => (c88 f.nm), trivial⟩
     refine at_ret ?_
     refine fin0 (.inr rfl) (.b ((decide ((((f.ks.map encF).length : Nat) : Int) = (0 : Int))) && (nameP f.nm))) [([0], .row ((celF f).map .tv) false)] (.b ((decide ((((f.ks.map encF).length : Nat) : Int) = (0 : Int))) && (nameP f.nm))) (H2 := [([0], .row ((celF f).map .tv) false)]) (by kernel_rfl) (by kernel_rfl) ?_
     refine Le.of_eq ?_
     first | rfl | (simp only [formedC, hc34, hc37, hc42, hc61, cond_true, cond_false]; done) | (simp only [formedC, hc34, hc37, hc42, hc61, cond_true, cond_false]; rfl) | (rw [formedC, hc34, hc37, hc42, hc61]; rfl)
    ·have q61 := hc61
     (try simp only [brs] at q61)
     refine at_B [3, 36, 70] [] [] [(1000000, .any), (3, .i (((f.ks.map encF).length : Nat) : Int)), (36, .i f.op), (70, .b (decide (f.op = (5 : Int))))] [([0], .row ((celF f).map .tv) false)] 46 (by kernel_rfl) ?_ ?_
     ·exact trivial
     refine at_cond (b := (decide (f.op = (5 : Int)))) rfl rfl (fun hc70 => ?_) (fun hc70 => ?_)
     ·have q70 := hc70
      (try simp only [brs] at q70)
      refine at_B [2] [] [] [(1000000, .any), (2, .b (decide ((((f.ks.map encF).length : Nat) : Int) = (1 : Int))))] [([0], .row ((celF f).map .tv) false)] 49 (by kernel_rfl) ?_ ?_
      ·exact trivial
      refine at_ret ?_
      refine fin0 (.inr rfl) (.b (decide ((((f.ks.map encF).length : Nat) : Int) = (1 : Int)))) [([0], .row ((celF f).map .tv) false)] (.b (decide ((((f.ks.map encF).length : Nat) : Int) = (1 : Int)))) (H2 := [([0], .row ((celF f).map .tv) false)]) (by kernel_rfl) (by kernel_rfl) ?_
      refine Le.of_eq ?_
      first | rfl | (simp only [formedC, hc34, hc37, hc42, hc61, hc70, cond_true, cond_false]; done) | (simp only [formedC, hc34, hc37, hc42, hc61, hc70, cond_true, cond_false]; rfl) | (rw [formedC, hc34, hc37, hc42, hc61, hc70]; rfl)
     ·have q70 := hc70
      (try simp only [brs] at q70)
      refine at_seq ?_
      refine at_B [3, 36, 74] [] [] [(1000000, .any), (3, .i (((f.ks.map encF).length : Nat) : Int)), (36, .i f.op), (74, .b (decide (f.op = (6 : Int))))] [([0], .row ((celF f).map .tv) false)] 48 (by kernel_rfl) ?_ ?_
      ·exact trivial
      refine at_mergel (p := []) [(1000000, .any), (3, .i (((f.ks.map encF).length : Nat) : Int)), (74, .b (bif (decide (f.op = (6 : Int))) then (decide (f.op = (6 : Int))) else (decide (f.op = (7 : Int)))))] [([0], .row ((celF f).map .tv) false)] 50 ?_ ?_
      ·refine at_cond (b := (decide (f.op = (6 : Int)))) rfl rfl (fun hc74 => ?_) (fun hc74 => ?_)
       ·skip
        refine at_skip ?_
        exact gh_merge [3, 74] [[0]] (Eq.trans (b := [(1000000, .any), (3, .i (((f.ks.map encF).length : Nat) : Int)), (74, .b (decide (f.op = (6 : Int))))]) (by kernel_rfl) (by simp only [hc74, cond_true, cond_false]; try rfl)) (by kernel_rfl) (by kernel_rfl)
       ·skip
        refine at_Bl [3, 74] [] [] [(1000000, .any), (3, .i (((f.ks.map encF).length : Nat) : Int)), (74, .b (decide (f.op = (7 : Int))))] [([0], .row ((celF f).map .tv) false)] 50 (by kernel_rfl) ?_ ?_
        ·exact trivial
        exact gh_merge [3, 74] [[0]] (Eq.trans (b := [(1000000, .any), (3, .i (((f.ks.map encF).length : Nat) : Int)), (74, .b (decide (f.op = (7 : Int))))]) (by kernel_rfl) (by simp only [hc74, cond_true, cond_false]; try rfl)) (by kernel_rfl) (by kernel_rfl)
      change AT _ _ _ _
      refine at_cond (b := (bif (decide (f.op = (6 : Int))) then (decide (f.op = (6 : Int))) else (decide (f.op = (7 : Int))))) rfl rfl (fun hc74 => ?_) (fun hc74 => ?_)
      ·have q74 := hc74
       (try simp only [brs] at q74)
       refine at_B [2] [] [] [(1000000, .any), (2, .b (decide ((2 : Int) ≤ (((f.ks.map encF).length : Nat) : Int))))] [([0], .row ((celF f).map .tv) false)] 53 (by kernel_rfl) ?_ ?_
       ·exact trivial
       refine at_ret ?_
       refine fin0 (.inr rfl) (.b (decide ((2 : Int) ≤ (((f.ks.map encF).length : Nat) : Int)))) [([0], .row ((celF f).map .tv) false)] (.b (decide ((2 : Int) ≤ (((f.ks.map encF).length : Nat) : Int)))) (H2 := [([0], .row ((celF f).map .tv) false)]) (by kernel_rfl) (by kernel_rfl) ?_
       refine Le.of_eq ?_
       first | rfl | (simp only [formedC, hc34, hc37, hc42, hc61, hc70, hc74, cond_true, cond_false]; done) | (simp only [formedC, hc34, hc37, hc42, hc61, hc70, hc74, cond_true, cond_false]; rfl) | (rw [formedC, hc34, hc37, hc42, hc61, hc70, hc74]; rfl)
      ·have q74 := hc74
       (try simp only [brs] at q74)
       refine at_skip ?_
       change AT _ _ _ _
       refine at_B [2] [] [] [(1000000, .any), (2, .b false)] [([0], .row ((celF f).map .tv) false)] 51 (by kernel_rfl) ?_ ?_
       ·exact trivial
       refine at_ret ?_
       refine fin0 (.inr rfl) (.b false) [([0], .row ((celF f).map .tv) false)] (.b false) (H2 := [([0], .row ((celF f).map .tv) false)]) (by kernel_rfl) (by kernel_rfl) ?_
       refine Le.of_eq ?_
       first | rfl | (simp only [formedC, hc34, hc37, hc42, hc61, hc70, hc74, cond_true, cond_false]; done) | (simp only [formedC, hc34, hc37, hc42, hc61, hc70, hc74, cond_true, cond_false]; rfl) | (rw [formedC, hc34, hc37, hc42, hc61, hc70, hc74]; rfl)
end Go.Proofs.YtphmhelkojdlaaaDoor
namespace Go.Proofs.YtphmhelkojdlaaaDoor
open Go.RowKit
set_option linter.unusedSimpArgs false
set_option linter.unusedVariables false
theorem formedC_eq (f : Fm) : formedC f = formedR f := by
 unfold formedC formedR
 generalize nameP f.nm = np
 generalize decide (f.nm = ⟨#[]⟩) = d1
 generalize decide (f.cm = (0 : Int)) = d2
 generalize decide (f.n = (0 : Int)) = d3
 generalize decide ((((f.ks.map encF).length : Nat) : Int) = (0 : Int)) = k0
 generalize decide ((((f.ks.map encF).length : Nat) : Int) = (1 : Int)) = k1
 generalize decide ((2 : Int) ≤ (((f.ks.map encF).length : Nat) : Int)) = k2
 generalize decide ((1 : Int) ≤ f.cm) = e1
 generalize decide (f.cm ≤ (6 : Int)) = e2
 generalize f.op = o
 by_cases o1 : o = 1
 ·subst o1; revert np d1 d2 d3 k0 k1 k2 e1 e2; decide
 by_cases o2 : o = 2
 ·subst o2; revert np d1 d2 d3 k0 k1 k2 e1 e2; decide
 by_cases o3 : o = 3
 ·subst o3; revert np d1 d2 d3 k0 k1 k2 e1 e2; decide
 by_cases o4 : o = 4
 ·subst o4; revert np d1 d2 d3 k0 k1 k2 e1 e2; decide
 by_cases o5 : o = 5
 ·subst o5; revert np d1 d2 d3 k0 k1 k2 e1 e2; decide
 by_cases o6 : o = 6
 ·subst o6; revert np d1 d2 d3 k0 k1 k2 e1 e2; decide
 by_cases o7 : o = 7
 ·subst o7; revert np d1 d2 d3 k0 k1 k2 e1 e2; decide
 simp only [decide_eq_false o1, decide_eq_false o2, decide_eq_false o3, decide_eq_false o4, decide_eq_false o5, decide_eq_false o6, decide_eq_false o7]
 revert np d1 d2 d3 k0 k1 k2 e1 e2; decide
theorem c71 (f : Fm) : PureCall Tryd.prog 71 [agF f] (.b (formedR f)) := by
 rw [← formedC_eq]; exact c71a f
end Go.Proofs.YtphmhelkojdlaaaDoor
namespace Go.Proofs.YtphmhelkojdlaaaDoor
open Go.RowKit
set_option linter.unusedSimpArgs false
set_option linter.unusedVariables false
theorem eqSR (s : ByteArray) : eqS s = eqR s := by
 funext x
 unfold eqS eqR
 by_cases e : s = x
 ·subst e; rfl
 ·rw [decide_eq_false e, decide_eq_false (fun h => e h.symm)]
theorem anySR (l : List ByteArray) (s : ByteArray) : l.any (eqS s) = l.any (eqR s) := by rw [eqSR]
def checkA (f : Fm) (d : Dm) : Int := bif largeR f then 2 else errF (oneR d [] true) f
theorem err_at {e : Fm → Int} {g : Fm} {v : Int} (h : e g = v) (hv : ¬ v = 0) : errF e g = v := by
 rw [errF_eq, h, decide_eq_false hv]; rfl
theorem vis_start {e : Fm → Int} {g : Fm} (h : ¬ errF e g = 0) (h0 : e g = 0) : errFs e (g.ks.drop 0) = errF e g := by
 rw [errF_eq, h0]; rfl
theorem vis_n1 {d : Dm} {l : List ByteArray} {g : Fm} : (bif ((decide (g.op = (3 : Int))) && (decide ((idxF (fcN g.nm) d.fs 0) < (0 : Int)))) then ((decide (g.op = (3 : Int))) && (decide ((idxF (fcN g.nm) d.fs 0) < (0 : Int)))) else ((decide (g.op = (4 : Int))) && false)) = nameE d l true g := by
 unfold nameE
 generalize decide (g.op = 3) = a
 generalize decide (g.op = 4) = b
 generalize decide (idxF (fcN g.nm) d.fs 0 < 0) = c
 cases a <;> cases b <;> cases c <;> rfl
theorem vis_n0 {d : Dm} {l : List ByteArray} {g : Fm} : (bif ((decide (g.op = (3 : Int))) && (decide ((idxF (fcN g.nm) d.fs 0) < (0 : Int)))) then ((decide (g.op = (3 : Int))) && (decide ((idxF (fcN g.nm) d.fs 0) < (0 : Int)))) else ((decide (g.op = (4 : Int))) && (!(List.any l (eqR g.nm))))) = nameE d l false g := by
 unfold nameE
 generalize decide (g.op = 3) = a
 generalize decide (g.op = 4) = b
 generalize decide (idxF (fcN g.nm) d.fs 0 < 0) = c
 cases a <;> cases b <;> cases c <;> rfl
theorem vis_known1 {d : Dm} {l : List ByteArray} {g : Fm} (h : formedR g = true ∧ rangeE g = false ∧ nameE d l true g = false) : (!(formedR g)) = false ∧ rangeE g = false ∧ (bif ((decide (g.op = (3 : Int))) && (decide ((idxF (fcN g.nm) d.fs 0) < (0 : Int)))) then ((decide (g.op = (3 : Int))) && (decide ((idxF (fcN g.nm) d.fs 0) < (0 : Int)))) else ((decide (g.op = (4 : Int))) && false)) = false :=
 ⟨by rw [h.1]; rfl, h.2.1, vis_n1.trans h.2.2⟩
theorem vis_known0 {d : Dm} {l : List ByteArray} {g : Fm} (h : formedR g = true ∧ rangeE g = false ∧ nameE d l false g = false) : (!(formedR g)) = false ∧ rangeE g = false ∧ (bif ((decide (g.op = (3 : Int))) && (decide ((idxF (fcN g.nm) d.fs 0) < (0 : Int)))) then ((decide (g.op = (3 : Int))) && (decide ((idxF (fcN g.nm) d.fs 0) < (0 : Int)))) else ((decide (g.op = (4 : Int))) && (!(List.any l (eqR g.nm))))) = false :=
 ⟨by rw [h.1]; rfl, h.2.1, vis_n0.trans h.2.2⟩
end Go.Proofs.YtphmhelkojdlaaaDoor
namespace Go.Proofs.YtphmhelkojdlaaaDoor
open Go.RowKit
set_option maxRecDepth 10000
set_option linter.unusedSimpArgs false
set_option linter.unusedVariables false
theorem c54 (s : ByteArray)  : PureCall Tryd.prog 54 [.tv (.str s)] (.b true) := by
 refine walk0 (fn := Tryd.f54) [.tmp 2] Tryd.func54 rfl (by kernel_rfl) rfl (by kernel_rfl) (by kernel_rfl) ?_
 change AT _ _ _ ⟨[(0, .tv (.str s))], [], [], 0⟩
 refine at_B [] [] [] [(1000000, .any)] [] 1 (by kernel_rfl) ?_ ?_
 ·exact trivial
 refine at_B [2] [] [] [(1000000, .any), (2, .b true)] [] 2 (by kernel_rfl) ?_ ?_
 ·exact trivial
 refine at_ret ?_
 refine fin0 (.inr rfl) (.b true) [] (.b true) (H2 := []) (by kernel_rfl) (by kernel_rfl) ?_
 refine Le.of_eq ?_
 rfl
noncomputable abbrev b44_1 : Id × AO := ([20], .loop [(1000000, .any), (4, .ptr [1] 0), (5, .ptr [2] 0), (6, .ptr [3] 0), (22, .fn (.func 75) [.ptr [0, 18] 0])] 63 [23] (fcode Tryd.f44 [1, 1, 0, 1, 1, 0]) (fcode Tryd.f44 [1, 1, 0, 1, 1, 1]) .ready none)
noncomputable abbrev b44_2 : Id × AO := ([1, 21], .row [.fn (.func 76) [.ptr [0, 21] 0, .ptr [1, 21] 0]] false)
noncomputable abbrev b44_3 : Id × AO := ([20], .loop [(1000000, .any), (4, .ptr [1] 0), (5, .ptr [2] 0), (6, .ptr [3] 0), (22, .fn (.func 75) [.ptr [0, 18] 0])] 63 [23] (fcode Tryd.f44 [1, 1, 0, 1, 1, 0]) (fcode Tryd.f44 [1, 1, 0, 1, 1, 1]) .busy none)
noncomputable abbrev b44_4 : Id × AO := ([20], .loop [(1000000, .any), (4, .ptr [1] 0), (5, .ptr [2] 0), (6, .ptr [3] 0), (22, .fn (.func 75) [.ptr [0, 18] 0])] 63 [23] (fcode Tryd.f44 [1, 1, 0, 1, 1, 0]) (fcode Tryd.f44 [1, 1, 0, 1, 1, 1]) .done (some .ret))
noncomputable abbrev b44_5 (f : Fm) : Id × AO := ([0, 18], .row ((celF f).map .tv) false)
noncomputable abbrev b44_6 (g : Fm) : Id × AO := ([0, 6, 21], .row ((celF g).map .tv) false)
noncomputable abbrev b44_7 (g : Fm) : Id × AO := ([0, 4, 6, 21], .row ((celF g).map .tv) false)
noncomputable abbrev b44_8 (g : Fm) (i : Nat) : Id × AO := ([3, 10, 6, 21], .row ((celF (g.ks.getD i Fm.z)).map .tv) false)
noncomputable abbrev b44_9 (d : Dm) (g : Fm) (i : Nat) : Id × AO := ([3], .row [.i (errF (oneR d [] true) (g.ks.getD i Fm.z))] false)
noncomputable abbrev b44_10 (d : Dm) (f : Fm) : Id × AO := ([3], .row [.i (errF (oneR d [] true) f)] false)
noncomputable abbrev b44_11 (g : Fm) (f : Fm) (d : Dm) : Hp := [(b44_7 g), (b44_6 g), b44_2, ([0, 21], .row [.yl [20]] false), b44_3, ([19], .dfr), (b44_5 f), ([3], .row [.i 0] false), ([2], .row [.tv (.fn 54)] false), ([1], .row ((celD d).map .tv) false), ([0], .row ((celF f).map .tv) false)]
noncomputable abbrev b44_12 (g : Fm) (f : Fm) (d : Dm) : Hp := [(b44_6 g), b44_2, ([0, 21], .row [.yl [20]] false), b44_1, ([19], .dfr), (b44_5 f), ([3], .row [.i 0] false), ([2], .row [.tv (.fn 54)] false), ([1], .row ((celD d).map .tv) false), ([0], .row ((celF f).map .tv) false)]
noncomputable abbrev b44_13 (g : Fm) (f : Fm) (d : Dm) : Hp := [(b44_7 g), (b44_6 g), b44_2, ([0, 21], .row [.yl [20]] false), b44_1, ([19], .dfr), (b44_5 f), ([3], .row [.i 0] false), ([2], .row [.tv (.fn 54)] false), ([1], .row ((celD d).map .tv) false), ([0], .row ((celF f).map .tv) false)]
noncomputable abbrev b44_14 (g : Fm) (i : Nat) (f : Fm) (d : Dm) : Hp := [(b44_8 g i), b44_2, ([0, 21], .row [.yl [20]] false), b44_1, ([19], .dfr), (b44_5 f), ([3], .row [.i 0] false), ([2], .row [.tv (.fn 54)] false), ([1], .row ((celD d).map .tv) false), ([0], .row ((celF f).map .tv) false)]
noncomputable abbrev b44_15 (g : Fm) (f : Fm) (d : Dm) : Hp := [(b44_6 g), b44_2, ([0, 21], .row [.yl [20]] false), b44_4, ([19], .dfr), (b44_5 f), ([3], .row [.i 10] false), ([2], .row [.tv (.fn 54)] false), ([1], .row ((celD d).map .tv) false), ([0], .row ((celF f).map .tv) false)]
noncomputable abbrev b44_16 (g : Fm) (f : Fm) (d : Dm) : Hp := [(b44_6 g), b44_2, ([0, 21], .row [.yl [20]] false), b44_4, ([19], .dfr), (b44_5 f), ([3], .row [.i 7] false), ([2], .row [.tv (.fn 54)] false), ([1], .row ((celD d).map .tv) false), ([0], .row ((celF f).map .tv) false)]
noncomputable abbrev b44_17 (g : Fm) (f : Fm) (d : Dm) : Hp := [(b44_6 g), b44_2, ([0, 21], .row [.yl [20]] false), b44_4, ([19], .dfr), (b44_5 f), ([3], .row [.i 1] false), ([2], .row [.tv (.fn 54)] false), ([1], .row ((celD d).map .tv) false), ([0], .row ((celF f).map .tv) false)]
noncomputable abbrev b44_18 (f : Fm) (d : Dm) : Hp := [(b44_5 f), ([3], .row [.i 0] false), ([2], .row [.tv (.fn 54)] false), ([1], .row ((celD d).map .tv) false), ([0], .row ((celF f).map .tv) false)]
noncomputable abbrev b44_19 (d : Dm) (f : Fm) : Hp := [([3], .row [.i 0] false), ([2], .row [.tv (.fn 54)] false), ([1], .row ((celD d).map .tv) false), ([0], .row ((celF f).map .tv) false)]
noncomputable abbrev b44_20 (f : Fm) (d : Dm) : Hp := [([1, 21], .row [.tv .nilf] false), ([0, 21], .row [.yl [20]] false), b44_1, ([19], .dfr), (b44_5 f), ([3], .row [.i 0] false), ([2], .row [.tv (.fn 54)] false), ([1], .row ((celD d).map .tv) false), ([0], .row ((celF f).map .tv) false)]
noncomputable abbrev b44_21 (g : Fm) (f : Fm) (d : Dm) : Hp := [(b44_7 g), (b44_6 g), b44_2, ([0, 21], .row [.yl [20]] false), b44_3, ([19], .dfr), (b44_5 f), ([3], .row [.i 10] false), ([2], .row [.tv (.fn 54)] false), ([1], .row ((celD d).map .tv) false), ([0], .row ((celF f).map .tv) false)]
noncomputable abbrev b44_22 (g : Fm) (f : Fm) (d : Dm) : Hp := [(b44_7 g), (b44_6 g), b44_2, ([0, 21], .row [.yl [20]] false), b44_3, ([19], .dfr), (b44_5 f), ([3], .row [.i 7] false), ([2], .row [.tv (.fn 54)] false), ([1], .row ((celD d).map .tv) false), ([0], .row ((celF f).map .tv) false)]
noncomputable abbrev b44_23 (g : Fm) (f : Fm) (d : Dm) : Hp := [(b44_7 g), (b44_6 g), b44_2, ([0, 21], .row [.yl [20]] false), b44_3, ([19], .dfr), (b44_5 f), ([3], .row [.i 1] false), ([2], .row [.tv (.fn 54)] false), ([1], .row ((celD d).map .tv) false), ([0], .row ((celF f).map .tv) false)]
noncomputable abbrev b44_24 (d : Dm) (f : Fm) : Hp := [([3], .row [.i 2] false), ([2], .row [.tv (.fn 54)] false), ([1], .row ((celD d).map .tv) false), ([0], .row ((celF f).map .tv) false)]
noncomputable abbrev b44_25 (f : Fm) (d : Dm) : Hp := [([0, 21], .row [.yl [20]] false), b44_1, ([19], .dfr), (b44_5 f), ([3], .row [.i 0] false), ([2], .row [.tv (.fn 54)] false), ([1], .row ((celD d).map .tv) false), ([0], .row ((celF f).map .tv) false)]
noncomputable abbrev b44_26 (f : Fm) (d : Dm) : Hp := [([19], .gone), (b44_5 f), ([3], .row [.i 0] false), ([2], .row [.tv (.fn 54)] false), ([1], .row ((celD d).map .tv) false), ([0], .row ((celF f).map .tv) false)]
noncomputable abbrev b44_27 (f : Fm) (d : Dm) : Hp := [([19], .dfr), (b44_5 f), ([3], .row [.i 0] false), ([2], .row [.tv (.fn 54)] false), ([1], .row ((celD d).map .tv) false), ([0], .row ((celF f).map .tv) false)]
noncomputable abbrev b44_28 (f : Fm) (d : Dm) : Hp := [([19], .gone), (b44_5 f), (b44_10 d f), ([2], .row [.tv (.fn 54)] false), ([1], .row ((celD d).map .tv) false), ([0], .row ((celF f).map .tv) false)]
noncomputable abbrev b44_29 (f : Fm) (d : Dm) : Hp := [b44_2, ([0, 21], .row [.yl [20]] false), b44_1, ([19], .dfr), (b44_5 f), ([3], .row [.i 0] false), ([2], .row [.tv (.fn 54)] false), ([1], .row ((celD d).map .tv) false), ([0], .row ((celF f).map .tv) false)]
noncomputable abbrev b44_30 (f : Fm) (d : Dm) (g : Fm) (i : Nat) : Hp := [b44_2, ([0, 21], .row [.yl [20]] false), b44_4, ([19], .dfr), (b44_5 f), (b44_9 d g i), ([2], .row [.tv (.fn 54)] false), ([1], .row ((celD d).map .tv) false), ([0], .row ((celF f).map .tv) false)]
noncomputable abbrev b44_31 (f : Fm) (d : Dm) : Hp := [b44_2, ([0, 21], .row [.yl [20]] false), b44_4, ([19], .dfr), (b44_5 f), (b44_10 d f), ([2], .row [.tv (.fn 54)] false), ([1], .row ((celD d).map .tv) false), ([0], .row ((celF f).map .tv) false)]
noncomputable abbrev b44_32 (f : Fm) (d : Dm) : Hp := [b44_1, ([19], .dfr), (b44_5 f), ([3], .row [.i 0] false), ([2], .row [.tv (.fn 54)] false), ([1], .row ((celD d).map .tv) false), ([0], .row ((celF f).map .tv) false)]
noncomputable abbrev b44_33 (f : Fm) (d : Dm) (g : Fm) : Hp := [b44_2, ([0, 21], .row [.yl [20]] false), b44_4, ([19], .dfr), (b44_5 f), ([3], .row [.i (errF (oneR d [] true) g)] false), ([2], .row [.tv (.fn 54)] false), ([1], .row ((celD d).map .tv) false), ([0], .row ((celF f).map .tv) false)]
theorem c44 (f : Fm) (d : Dm)  : PureCall Tryd.prog 44 [agF f, agD d, .tv (.fn 54)] (.i (checkA f d)) := by
 refine walk0 (fn := Tryd.f44) [.cell 6 36] Tryd.func44 rfl (by kernel_rfl) rfl (by kernel_rfl) (by kernel_rfl) ?_
 change AT _ _ _ ⟨[(0, agF f), (1, agD d), (2, .tv (.fn 54))], [], [], 0⟩
 refine at_B [3, 4, 5, 6] [] [] [(1000000, .any), (3, .ptr [0] 0), (4, .ptr [1] 0), (5, .ptr [2] 0), (6, .ptr [3] 0)] (b44_19 d f) 4 (by kernel_rfl) ?_ ?_
 ·exact trivial
 refine at_seq ?_
 refine at_B [3, 4, 5, 6, 7, 8] [.std, .ret (.tup [.i ((szF f).1), .i ((szF f).2)])] [PureCall Tryd.prog 14 [agF f] (.tup [.i ((szF f).1), .i ((szF f).2)])] [(1000000, .any), (3, .ptr [0] 0), (4, .ptr [1] 0), (5, .ptr [2] 0), (6, .ptr [3] 0), (7, .i ((szF f).1)), (8, .i ((szF f).2))] (b44_19 d f) 11 (by kernel_rfl) ?_ ?_
 ·exact ⟨(c14 f), trivial⟩
 refine at_B [3, 4, 5, 6, 20] [] [] [(1000000, .any), (3, .ptr [0] 0), (4, .ptr [1] 0), (5, .ptr [2] 0), (6, .ptr [3] 0), (20, .b ((decide ((200 : Int) < (szF f).1)) || (decide ((20 : Int) < (szF f).2))))] (b44_19 d f) 17 (by kernel_rfl) ?_ ?_
 ·exact trivial
 refine at_cond (b := ((decide ((200 : Int) < (szF f).1)) || (decide ((20 : Int) < (szF f).2)))) rfl rfl (fun hc20 => ?_) (fun hc20 => ?_)
 ·have q20 := hc20
  (try simp only [brs] at q20)
  refine at_B [6] [] [] [(1000000, .any), (6, .ptr [3] 0)] (b44_24 d f) 18 (by kernel_rfl) ?_ ?_
  ·exact trivial
  refine at_ret ?_
  refine fin0 (.inr rfl) (.i 2) (b44_24 d f) (.i 2) (H2 := (b44_24 d f)) (by kernel_rfl) (by kernel_rfl) ?_
  refine Le.of_eq ?_
  rw [checkA, largeR, hc20]; rfl
 ·have q20 := hc20
  (try simp only [brs] at q20)
  refine at_skip ?_
  change AT _ _ _ _
  refine at_seq ?_
  refine at_B [4, 5, 6, 22] [.std, .retH (.fn (.func 75) [.ptr [0, 18] 0]) (b44_18 f d)] [CallOK Tryd.prog 49 [agF f] (b44_19 d f) [18] (fun v1 H1 => v1 = (.fn (.func 75) [.ptr [0, 18] 0]) ∧ H1 = (b44_18 f d))] [(1000000, .any), (4, .ptr [1] 0), (5, .ptr [2] 0), (6, .ptr [3] 0), (22, .fn (.func 75) [.ptr [0, 18] 0])] (b44_18 f d) 19 (by kernel_rfl) ?_ ?_
  ·refine ⟨?_, trivial⟩
   ·refine call_in (fn := Tryd.f49) [.tmp 2] Tryd.func49 rfl (by kernel_rfl) rfl ?_
    change AT _ _ _ ⟨[(0, agF f)], (b44_19 d f), [18], 0⟩
    refine at_B [1] [] [] [(1000000, .any), (1, .ptr [0, 18] 0)] (b44_18 f d) 2 (by kernel_rfl) ?_ ?_
    ·exact trivial
    refine at_B [2] [] [] [(1000000, .any), (2, .fn (.func 75) [.ptr [0, 18] 0])] (b44_18 f d) 4 (by kernel_rfl) ?_ ?_
    ·exact trivial
    refine at_ret ?_
    exact fin_in (.inr rfl) [[0, 18], [3], [2], [1], [0]] (.fn (.func 75) [.ptr [0, 18] 0]) (b44_18 f d) (by kernel_rfl) rfl (by kernel_rfl)
  refine at_block ?_
  refine at_keepB [4, 5, 6, 22] [(1000000, .any), (4, .ptr [1] 0), (5, .ptr [2] 0), (6, .ptr [3] 0), (22, .fn (.func 75) [.ptr [0, 18] 0])] (by kernel_rfl) ?_
  cases hs1 : ((decide ((errF (oneR d [] true) f) = (0 : Int))))
  ·have qhs1 := hs1
   refine at_rf_ret 75 [.ptr [0, 18] 0] (.tup []) [b44_4, ([19], .dfr), (b44_5 f), (b44_10 d f), ([2], .row [.tv (.fn 54)] false), ([1], .row ((celD d).map .tv) false), ([0], .row ((celF f).map .tv) false)] [(1000000, .any), (4, .ptr [1] 0), (5, .ptr [2] 0), (6, .ptr [3] 0), (22, .fn (.func 75) [.ptr [0, 18] 0])] 63 [23] (fcode Tryd.f44 [1, 1, 0, 1, 1, 0]) (fcode Tryd.f44 [1, 1, 0, 1, 1, 1]) [4, 5, 6, 22] [[19], [0, 18], [3], [2], [1], [0]] [(1000000, .ds [.ptr [19] 0]), (4, .ptr [1] 0), (5, .ptr [2] 0), (6, .ptr [3] 0), (22, .fn (.func 75) [.ptr [0, 18] 0])] [([19], .dfr), (b44_5 f), (b44_10 d f), ([2], .row [.tv (.fn 54)] false), ([1], .row ((celD d).map .tv) false), ([0], .row ((celF f).map .tv) false)] (by kernel_rfl) rfl (by kernel_rfl) ?_ (by kernel_rfl) (by kernel_rfl) rfl (by kernel_rfl) ?_
   ·refine call_in (fn := Tryd.f75) [] Tryd.func75 rfl (by kernel_rfl) rfl ?_
    change AT _ _ _ ⟨[(0, .yl [20]), (1, .ptr [0, 18] 0)], (b44_32 f d), [21], 0⟩
    refine at_B [1, 2] [] [] [(1000000, .any), (1, .ptr [0, 18] 0), (2, .ptr [0, 21] 0)] (b44_25 f d) 1 (by kernel_rfl) ?_ ?_
    ·exact trivial
    refine at_B [1, 2, 3] [] [] [(1000000, .any), (1, .ptr [0, 18] 0), (2, .ptr [0, 21] 0), (3, .ptr [1, 21] 0)] (b44_20 f d) 2 (by kernel_rfl) ?_ ?_
    ·exact trivial
    refine at_B [1, 3] [] [] [(1000000, .any), (1, .ptr [0, 18] 0), (3, .ptr [1, 21] 0)] (b44_29 f d) 4 (by kernel_rfl) ?_ ?_
    ·exact trivial
    refine at_Bl [] [.std, .std, .retH (.b false) (b44_31 f d)] [CallOK Tryd.prog 76 [agF f, .ptr [0, 21] 0, .ptr [1, 21] 0] (b44_29 f d) [6, 21] (fun v1 H1 => v1 = (.b false) ∧ H1 = (b44_31 f d))] [(1000000, .any)] (b44_31 f d) 7 (by kernel_rfl) ?_ ?_
    ·refine ⟨?_, trivial⟩
     ·have vis : ∀ g : Fm, ((decide ((errF (oneR d [] true) g) = (0 : Int))) = true → CallOK Tryd.prog 76 [agF g, .ptr [0, 21] 0, .ptr [1, 21] 0] (b44_29 f d) [6, 21] (fun v1 H1 => v1 = (.b true) ∧ H1 = (b44_29 f d))) ∧ ((decide ((errF (oneR d [] true) g) = (0 : Int))) = false → CallOK Tryd.prog 76 [agF g, .ptr [0, 21] 0, .ptr [1, 21] 0] (b44_29 f d) [6, 21] (fun v1 H1 => v1 = (.b false) ∧ H1 = (b44_33 f d g))) := by
       refine Fm.ind (fun g ih => ⟨fun hv => ?_, fun hv => ?_⟩)
       ·have hz := errF_zero (of_decide_eq_true hv)
        have ho := one_zero hz.1
        obtain ⟨hk0, hk1, hk2⟩ := vis_known1 ho
        refine call_in (fn := Tryd.f76) [.tmp 4] Tryd.func76 rfl (by kernel_rfl) rfl ?_
        change AT _ _ _ ⟨[(0, agF g), (1, .ptr [0, 21] 0), (2, .ptr [1, 21] 0)], (b44_29 f d), [6, 21], 0⟩
        refine at_B [1, 2, 3] [] [] [(1000000, .any), (1, .ptr [0, 21] 0), (2, .ptr [1, 21] 0), (3, .ptr [0, 6, 21] 0)] (b44_12 g f d) 2 (by kernel_rfl) ?_ ?_
        ·exact trivial
        refine at_seq ?_
        refine at_B [2, 3, 10] [.std, .std, .retY (.b true) (b44_12 g f d)] [YldOK Tryd.prog [20] [agF g] (b44_12 g f d) [4, 6, 21] (fun v1 H1 => v1 = (.b true) ∧ H1 = (b44_12 g f d))] [(1000000, .any), (2, .ptr [1, 21] 0), (3, .ptr [0, 6, 21] 0), (10, .b false)] (b44_12 g f d) 6 (by kernel_rfl) ?_ ?_
        ·refine ⟨?_, trivial⟩
         ·refine yld_in [(1000000, .any), (4, .ptr [1] 0), (5, .ptr [2] 0), (6, .ptr [3] 0), (22, .fn (.func 75) [.ptr [0, 18] 0])] 63 [23] (fcode Tryd.f44 [1, 1, 0, 1, 1, 0]) (fcode Tryd.f44 [1, 1, 0, 1, 1, 1]) none (by kernel_rfl) (by kernel_rfl) (fun lp => ?_)
          change AT _ (fcode Tryd.f44 [1, 1, 0, 1, 1, 0]) _ ⟨[(1000000, .any), (23, agF g), (1000000, .any), (4, .ptr [1] 0), (5, .ptr [2] 0), (6, .ptr [3] 0), (22, .fn (.func 75) [.ptr [0, 18] 0])], (b44_12 g f d), [4, 6, 21], 0⟩
          refine at_Bl [4, 5, 6, 9] [] [] [(1000000, .any), (4, .ptr [1] 0), (5, .ptr [2] 0), (6, .ptr [3] 0), (9, .ptr [0, 4, 6, 21] 0)] (b44_13 g f d) 2 (by kernel_rfl) ?_ ?_
          ·exact trivial
          refine asg_end [(1000000, .any), (4, .ptr [1] 0), (5, .ptr [2] 0), (6, .ptr [3] 0), (22, .fn (.func 75) [.ptr [0, 18] 0])] 63 [23] (fcode Tryd.f44 [1, 1, 0, 1, 1, 0]) none (by kernel_rfl) (H1 := (b44_11 g f d)) (by kernel_rfl) ?_
          refine at_block ?_
          refine at_block ?_
          refine at_B [4, 5, 6, 9, 24] [.std, .ret (.b (formedR g))] [PureCall Tryd.prog 71 [agF g] (.b (formedR g))] [(1000000, .any), (4, .ptr [1] 0), (5, .ptr [2] 0), (6, .ptr [3] 0), (9, .ptr [0, 4, 6, 21] 0), (24, .b (!(formedR g)))] (b44_11 g f d) 6 (by kernel_rfl) ?_ ?_
          ·exact ⟨(c71 g), trivial⟩
          refine at_cond (b := (!(formedR g))) rfl rfl (fun h => ?_) (fun h => ?_)
          ·exact absurd (h.symm.trans hk0) (by decide)
          clear h
          refine at_B [4, 5, 6, 9, 28] [] [] [(1000000, .any), (4, .ptr [1] 0), (5, .ptr [2] 0), (6, .ptr [3] 0), (9, .ptr [0, 4, 6, 21] 0), (28, .b ((decide (g.op = (3 : Int))) && ((decide (g.n < (0 : Int))) || (decide ((1000000 : Int) < g.n)))))] (b44_11 g f d) 20 (by kernel_rfl) ?_ ?_
          ·exact trivial
          refine at_cond (b := ((decide (g.op = (3 : Int))) && ((decide (g.n < (0 : Int))) || (decide ((1000000 : Int) < g.n))))) rfl rfl (fun h => ?_) (fun h => ?_)
          ·exact absurd (h.symm.trans hk1) (by decide)
          clear h
          refine at_seq ?_
          refine at_B [5, 6, 9, 42] [.std, .std, .std, .std, .std, .std, .std, .ret (.i (idxF (fcN g.nm) d.fs 0))] [((decide (g.op = (3 : Int))) = true) → PureCall Tryd.prog 57 [agD d, .tv (.str g.nm)] (.i (idxF (fcN g.nm) d.fs 0))] [(1000000, .any), (5, .ptr [2] 0), (6, .ptr [3] 0), (9, .ptr [0, 4, 6, 21] 0), (42, .b ((decide (g.op = (3 : Int))) && (decide ((idxF (fcN g.nm) d.fs 0) < (0 : Int)))))] (b44_11 g f d) 31 (by kernel_rfl) ?_ ?_
          ·exact ⟨fun hg0 => (c57 d g.nm), trivial⟩
          refine at_mergel (p := [4, 6, 21]) [(1000000, .any), (6, .ptr [3] 0), (42, .b (bif ((decide (g.op = (3 : Int))) && (decide ((idxF (fcN g.nm) d.fs 0) < (0 : Int)))) then ((decide (g.op = (3 : Int))) && (decide ((idxF (fcN g.nm) d.fs 0) < (0 : Int)))) else ((decide (g.op = (4 : Int))) && false)))] [([0, 4, 6, 21], .row ((celF g).map .tv) false), ([0, 6, 21], .row ((celF g).map .tv) false), ([1, 21], .row [.fn (.func 76) [.ptr [0, 21] 0, .ptr [1, 21] 0]] false), ([0, 21], .row [.yl [20]] false), ([20], .loop [(1000000, .any), (4, .ptr [1] 0), (5, .ptr [2] 0), (6, .ptr [3] 0), (22, .fn (.func 75) [.ptr [0, 18] 0])] 63 [23] (fcode Tryd.f44 [1, 1, 0, 1, 1, 0]) (fcode Tryd.f44 [1, 1, 0, 1, 1, 1]) .busy none), ([19], .dfr), ([0, 18], .row ((celF f).map .tv) false), ([3], .row [.i 0] false), ([2], .row [.tv (.fn 54)] false), ([1], .row ((celD d).map .tv) false), ([0], .row ((celF f).map .tv) false)] 42 ?_ ?_
          ·refine at_cond (b := ((decide (g.op = (3 : Int))) && (decide ((idxF (fcN g.nm) d.fs 0) < (0 : Int))))) rfl rfl (fun hc42_25 => ?_) (fun hc42_25 => ?_)
           ·skip
            refine at_skip ?_
            exact gh_merge [6, 42] [[0, 4, 6, 21], [0, 6, 21], [1, 21], [0, 21], [20], [19], [0, 18], [3], [2], [1], [0]] (Eq.trans (b := [(1000000, .any), (6, .ptr [3] 0), (42, .b ((decide (g.op = (3 : Int))) && (decide ((idxF (fcN g.nm) d.fs 0) < (0 : Int)))))]) (by kernel_rfl) (by simp only [hc42_25, cond_true, cond_false]; try rfl)) (by kernel_rfl) (by kernel_rfl)
           ·skip
            refine at_Bl [6, 42] [.std, .std, .std, .std, .std, .std, .std, .ret (.b true)] [((decide (g.op = (4 : Int))) = true) → PureCall Tryd.prog 54 [.tv (.str g.nm)] (.b true)] [(1000000, .any), (6, .ptr [3] 0), (42, .b ((decide (g.op = (4 : Int))) && false))] (b44_11 g f d) 42 (by kernel_rfl) ?_ ?_
            ·exact ⟨fun hg0 => (c54 g.nm), trivial⟩
            exact gh_merge [6, 42] [[0, 4, 6, 21], [0, 6, 21], [1, 21], [0, 21], [20], [19], [0, 18], [3], [2], [1], [0]] (Eq.trans (b := [(1000000, .any), (6, .ptr [3] 0), (42, .b ((decide (g.op = (4 : Int))) && false))]) (by kernel_rfl) (by simp only [hc42_25, cond_true, cond_false]; try rfl)) (by kernel_rfl) (by kernel_rfl)
          change AT _ _ _ _
          refine at_cond (b := (bif ((decide (g.op = (3 : Int))) && (decide ((idxF (fcN g.nm) d.fs 0) < (0 : Int)))) then ((decide (g.op = (3 : Int))) && (decide ((idxF (fcN g.nm) d.fs 0) < (0 : Int)))) else ((decide (g.op = (4 : Int))) && false))) rfl rfl (fun h => ?_) (fun h => ?_)
          ·exact absurd (h.symm.trans hk2) (by decide)
          clear h
          refine at_skip ?_
          exact round_end (q := [4, 6, 21]) [[0, 6, 21], [1, 21], [0, 21], [20], [19], [0, 18], [3], [2], [1], [0]] [(1000000, .any), (4, .ptr [1] 0), (5, .ptr [2] 0), (6, .ptr [3] 0), (22, .fn (.func 75) [.ptr [0, 18] 0])] 63 [23] (fcode Tryd.f44 [1, 1, 0, 1, 1, 0]) (fcode Tryd.f44 [1, 1, 0, 1, 1, 1]) .busy none (by kernel_rfl) rfl (by kernel_rfl)
        refine at_cond (b := false) rfl rfl (fun h => ?_) (fun h => ?_)
        ·cases h
        clear h
        refine at_skip ?_
        change AT _ _ _ _
        refine at_seq ?_
        refine at_B [2, 12, 13, 14] [] [] [(1000000, .any), (2, .ptr [1, 21] 0), (12, .tv (.sli 5 (g.ks.map encF))), (13, .i (((g.ks.map encF).length : Nat) : Int)), (14, .i 0)] (b44_12 g f d) 10 (by kernel_rfl) ?_ ?_
        ·exact trivial
        refine at_block ?_
        refine at_len 12 rfl (fun hlen => ?_)
        refine at_loopR (X := Nat) 0 (fun (i : Nat) => [(1000000, .any), (2, .ptr [1, 21] 0), (12, .tv (.sli 5 (g.ks.map encF))), (13, .i (((g.ks.map encF).length : Nat) : Int)), (14, .i ((i : Nat) : Int))]) (fun (i : Nat) => (b44_29 f d)) (fun (i : Nat) => i ≤ g.ks.length) (fun (i : Nat) => g.ks.length - i) 0 ?_ ?_ ?_
        ·exact Nat.zero_le _
        ·exact rn_ok [([1, 21], [1, 21]), ([0, 21], [0, 21]), ([20], [20]), ([19], [19]), ([0, 18], [0, 18]), ([3], [3]), ([2], [2]), ([1], [1]), ([0], [0])] [] [2, 12, 13, 14] (trivial) (by kernel_rfl)
        ·intro i hinv
         have hx1 := hinv
         refine at_B [2, 12, 13, 14, 15] [] [] [(1000000, .any), (2, .ptr [1, 21] 0), (12, .tv (.sli 5 (g.ks.map encF))), (13, .i (((g.ks.map encF).length : Nat) : Int)), (14, .i ((i : Nat) : Int)), (15, .b (decide (((i : Nat) : Int) < (((g.ks.map encF).length : Nat) : Int))))] (b44_29 f d) 1 (by kernel_rfl) ?_ ?_
         ·exact trivial
         refine at_seq ?_
         refine at_cond (b := (decide (((i : Nat) : Int) < (((g.ks.map encF).length : Nat) : Int)))) rfl rfl (fun hc15_24 => ?_) (fun hc15_24 => ?_)
         ·have q15_24 := hc15_24
          (try simp only [brs] at q15_24)
          refine at_skip ?_
          change AT _ _ _ _
          refine at_seq ?_
          refine at_block ?_
          refine at_B [2, 6, 12, 13, 14] [.eq (.tv (.ptr (celF (g.ks.getD i Fm.z))))] [(0 ≤ ((i : Nat) : Int) ∧ ((i : Nat) : Int) < ((((g.ks.map encF) : List (List TV)).length : Nat) : Int)), (.tv (.ptr (rowAt (g.ks.map encF) ((i : Nat) : Int))) : AV) = .tv (.ptr (celF (g.ks.getD i Fm.z)))] [(1000000, .any), (2, .ptr [1, 21] 0), (6, .ptr [3, 10, 6, 21] 0), (12, .tv (.sli 5 (g.ks.map encF))), (13, .i (((g.ks.map encF).length : Nat) : Int)), (14, .i ((i : Nat) : Int))] (b44_14 g i f d) 5 (by kernel_rfl) ?_ ?_
          ·exact ⟨by (try simp only [lns] at *); omega, congrArg (fun c => AV.tv (.ptr c)) (row_F g.ks ((i : Nat) : Int) (by (try simp only [brs, lns] at *); omega)), trivial⟩
          have hkid : (decide ((errF (oneR d [] true) (g.ks.getD i Fm.z)) = (0 : Int))) = true := decide_eq_true (hz.2 _ (getD_mem (by omega)))
          refine at_B [2, 12, 13, 14, 21] [.std, .std, .retH (.b true) (b44_29 f d)] [CallOK Tryd.prog 76 [agF (g.ks.getD i Fm.z), .ptr [0, 21] 0, .ptr [1, 21] 0] (b44_14 g i f d) [7, 10, 6, 21] (fun v1 H1 => v1 = (.b true) ∧ H1 = (b44_29 f d))] [(1000000, .any), (2, .ptr [1, 21] 0), (12, .tv (.sli 5 (g.ks.map encF))), (13, .i (((g.ks.map encF).length : Nat) : Int)), (14, .i ((i : Nat) : Int)), (21, .b false)] (b44_29 f d) 9 (by kernel_rfl) ?_ ?_
          ·refine ⟨?_, trivial⟩
           ·exact call_mv [([1, 21], [1, 21]), ([0, 21], [0, 21]), ([20], [20]), ([19], [19]), ([0, 18], [0, 18]), ([3], [3]), ([2], [2]), ([1], [1]), ([0], [0])] [([1, 21], [1, 21]), ([0, 21], [0, 21]), ([20], [20]), ([19], [19]), ([0, 18], [0, 18]), ([3], [3]), ([2], [2]), ([1], [1]), ([0], [0])] [] [] ((ih (g.ks.getD i Fm.z) (getD_mem (by omega))).1 hkid) (by kernel_rfl) (by kernel_rfl) trivial (by kernel_rfl) (by kernel_rfl) trivial (by kernel_rfl)
          refine at_cond (b := false) rfl rfl (fun h => ?_) (fun h => ?_)
          ·cases h
          clear h
          refine at_skip ?_
          change AT _ _ _ _
          refine at_Bl [2, 12, 13, 14] [.eq (.i ((i + 1 : Nat) : Int))] [(.i (wr (((i : Nat) : Int) + 1)) : AV) = .i ((i + 1 : Nat) : Int)] [(1000000, .any), (2, .ptr [1, 21] 0), (12, .tv (.sli 5 (g.ks.map encF))), (13, .i (((g.ks.map encF).length : Nat) : Int)), (14, .i ((i + 1 : Nat) : Int))] (b44_29 f d) 11 (by kernel_rfl) ?_ ?_
          ·exact ⟨succ_av i (by (try simp only [lns] at *); omega), trivial⟩
          refine ⟨rfl, (i + 1), ?_, ?_, ?_⟩
          ·(try dsimp only); omega
          ·omega
          ·exact rn_ok [([1, 21], [1, 21]), ([0, 21], [0, 21]), ([20], [20]), ([19], [19]), ([0, 18], [0, 18]), ([3], [3]), ([2], [2]), ([1], [1]), ([0], [0])] [] [2, 12, 13, 14] (trivial) (by kernel_rfl)
         ·have q15_24 := hc15_24
          (try simp only [brs] at q15_24)
          refine at_exit ?_
          change AT _ _ _ _
          refine at_B [4] [] [] [(1000000, .any), (4, .b true)] (b44_29 f d) 12 (by kernel_rfl) ?_ ?_
          ·exact trivial
          refine at_ret ?_
          exact fin_in (.inr rfl) [[1, 21], [0, 21], [20], [19], [0, 18], [3], [2], [1], [0]] (.b true) (b44_29 f d) (by kernel_rfl) rfl (by kernel_rfl)
       ·skip
        refine call_in (fn := Tryd.f76) [.tmp 4] Tryd.func76 rfl (by kernel_rfl) rfl ?_
        change AT _ _ _ ⟨[(0, agF g), (1, .ptr [0, 21] 0), (2, .ptr [1, 21] 0)], (b44_29 f d), [6, 21], 0⟩
        refine at_B [1, 2, 3] [] [] [(1000000, .any), (1, .ptr [0, 21] 0), (2, .ptr [1, 21] 0), (3, .ptr [0, 6, 21] 0)] (b44_12 g f d) 2 (by kernel_rfl) ?_ ?_
        ·exact trivial
        refine at_seq ?_
        cases hs_261 : ((!(formedR g)))
        ·have qhs_261 := hs_261
         (try simp only [brs] at qhs_261)
         cases hs_262 : (((decide (g.op = (3 : Int))) && ((decide (g.n < (0 : Int))) || (decide ((1000000 : Int) < g.n)))))
         ·have qhs_262 := hs_262
          (try simp only [brs] at qhs_262)
          cases hs_263 : ((bif ((decide (g.op = (3 : Int))) && (decide ((idxF (fcN g.nm) d.fs 0) < (0 : Int)))) then ((decide (g.op = (3 : Int))) && (decide ((idxF (fcN g.nm) d.fs 0) < (0 : Int)))) else ((decide (g.op = (4 : Int))) && false)))
          ·have qhs_263 := hs_263
           (try simp only [brs] at qhs_263)
           refine at_B [2, 3, 10] [.std, .std, .retY (.b true) (b44_12 g f d)] [YldOK Tryd.prog [20] [agF g] (b44_12 g f d) [4, 6, 21] (fun v1 H1 => v1 = (.b true) ∧ H1 = (b44_12 g f d))] [(1000000, .any), (2, .ptr [1, 21] 0), (3, .ptr [0, 6, 21] 0), (10, .b false)] (b44_12 g f d) 6 (by kernel_rfl) ?_ ?_
           ·refine ⟨?_, trivial⟩
            ·refine yld_in [(1000000, .any), (4, .ptr [1] 0), (5, .ptr [2] 0), (6, .ptr [3] 0), (22, .fn (.func 75) [.ptr [0, 18] 0])] 63 [23] (fcode Tryd.f44 [1, 1, 0, 1, 1, 0]) (fcode Tryd.f44 [1, 1, 0, 1, 1, 1]) none (by kernel_rfl) (by kernel_rfl) (fun lp => ?_)
             change AT _ (fcode Tryd.f44 [1, 1, 0, 1, 1, 0]) _ ⟨[(1000000, .any), (23, agF g), (1000000, .any), (4, .ptr [1] 0), (5, .ptr [2] 0), (6, .ptr [3] 0), (22, .fn (.func 75) [.ptr [0, 18] 0])], (b44_12 g f d), [4, 6, 21], 0⟩
             refine at_Bl [4, 5, 6, 9] [] [] [(1000000, .any), (4, .ptr [1] 0), (5, .ptr [2] 0), (6, .ptr [3] 0), (9, .ptr [0, 4, 6, 21] 0)] (b44_13 g f d) 2 (by kernel_rfl) ?_ ?_
             ·exact trivial
             refine asg_end [(1000000, .any), (4, .ptr [1] 0), (5, .ptr [2] 0), (6, .ptr [3] 0), (22, .fn (.func 75) [.ptr [0, 18] 0])] 63 [23] (fcode Tryd.f44 [1, 1, 0, 1, 1, 0]) none (by kernel_rfl) (H1 := (b44_11 g f d)) (by kernel_rfl) ?_
             refine at_block ?_
             refine at_block ?_
             refine at_B [4, 5, 6, 9, 24] [.std, .ret (.b (formedR g))] [PureCall Tryd.prog 71 [agF g] (.b (formedR g))] [(1000000, .any), (4, .ptr [1] 0), (5, .ptr [2] 0), (6, .ptr [3] 0), (9, .ptr [0, 4, 6, 21] 0), (24, .b (!(formedR g)))] (b44_11 g f d) 6 (by kernel_rfl) ?_ ?_
             ·exact ⟨(c71 g), trivial⟩
             refine at_cond (b := (!(formedR g))) rfl rfl (fun h => ?_) (fun h => ?_)
             ·exact absurd (h.symm.trans hs_261) (by decide)
             clear h
             refine at_B [4, 5, 6, 9, 28] [] [] [(1000000, .any), (4, .ptr [1] 0), (5, .ptr [2] 0), (6, .ptr [3] 0), (9, .ptr [0, 4, 6, 21] 0), (28, .b ((decide (g.op = (3 : Int))) && ((decide (g.n < (0 : Int))) || (decide ((1000000 : Int) < g.n)))))] (b44_11 g f d) 20 (by kernel_rfl) ?_ ?_
             ·exact trivial
             refine at_cond (b := ((decide (g.op = (3 : Int))) && ((decide (g.n < (0 : Int))) || (decide ((1000000 : Int) < g.n))))) rfl rfl (fun h => ?_) (fun h => ?_)
             ·exact absurd (h.symm.trans hs_262) (by decide)
             clear h
             refine at_seq ?_
             refine at_B [5, 6, 9, 42] [.std, .std, .std, .std, .std, .std, .std, .ret (.i (idxF (fcN g.nm) d.fs 0))] [((decide (g.op = (3 : Int))) = true) → PureCall Tryd.prog 57 [agD d, .tv (.str g.nm)] (.i (idxF (fcN g.nm) d.fs 0))] [(1000000, .any), (5, .ptr [2] 0), (6, .ptr [3] 0), (9, .ptr [0, 4, 6, 21] 0), (42, .b ((decide (g.op = (3 : Int))) && (decide ((idxF (fcN g.nm) d.fs 0) < (0 : Int)))))] (b44_11 g f d) 31 (by kernel_rfl) ?_ ?_
             ·exact ⟨fun hg0 => (c57 d g.nm), trivial⟩
             refine at_mergel (p := [4, 6, 21]) [(1000000, .any), (6, .ptr [3] 0), (42, .b (bif ((decide (g.op = (3 : Int))) && (decide ((idxF (fcN g.nm) d.fs 0) < (0 : Int)))) then ((decide (g.op = (3 : Int))) && (decide ((idxF (fcN g.nm) d.fs 0) < (0 : Int)))) else ((decide (g.op = (4 : Int))) && false)))] [([0, 4, 6, 21], .row ((celF g).map .tv) false), ([0, 6, 21], .row ((celF g).map .tv) false), ([1, 21], .row [.fn (.func 76) [.ptr [0, 21] 0, .ptr [1, 21] 0]] false), ([0, 21], .row [.yl [20]] false), ([20], .loop [(1000000, .any), (4, .ptr [1] 0), (5, .ptr [2] 0), (6, .ptr [3] 0), (22, .fn (.func 75) [.ptr [0, 18] 0])] 63 [23] (fcode Tryd.f44 [1, 1, 0, 1, 1, 0]) (fcode Tryd.f44 [1, 1, 0, 1, 1, 1]) .busy none), ([19], .dfr), ([0, 18], .row ((celF f).map .tv) false), ([3], .row [.i 0] false), ([2], .row [.tv (.fn 54)] false), ([1], .row ((celD d).map .tv) false), ([0], .row ((celF f).map .tv) false)] 42 ?_ ?_
             ·refine at_cond (b := ((decide (g.op = (3 : Int))) && (decide ((idxF (fcN g.nm) d.fs 0) < (0 : Int))))) rfl rfl (fun hc42_30 => ?_) (fun hc42_30 => ?_)
              ·skip
               refine at_skip ?_
               exact gh_merge [6, 42] [[0, 4, 6, 21], [0, 6, 21], [1, 21], [0, 21], [20], [19], [0, 18], [3], [2], [1], [0]] (Eq.trans (b := [(1000000, .any), (6, .ptr [3] 0), (42, .b ((decide (g.op = (3 : Int))) && (decide ((idxF (fcN g.nm) d.fs 0) < (0 : Int)))))]) (by kernel_rfl) (by simp only [hc42_30, cond_true, cond_false]; try rfl)) (by kernel_rfl) (by kernel_rfl)
              ·skip
               refine at_Bl [6, 42] [.std, .std, .std, .std, .std, .std, .std, .ret (.b true)] [((decide (g.op = (4 : Int))) = true) → PureCall Tryd.prog 54 [.tv (.str g.nm)] (.b true)] [(1000000, .any), (6, .ptr [3] 0), (42, .b ((decide (g.op = (4 : Int))) && false))] (b44_11 g f d) 42 (by kernel_rfl) ?_ ?_
               ·exact ⟨fun hg0 => (c54 g.nm), trivial⟩
               exact gh_merge [6, 42] [[0, 4, 6, 21], [0, 6, 21], [1, 21], [0, 21], [20], [19], [0, 18], [3], [2], [1], [0]] (Eq.trans (b := [(1000000, .any), (6, .ptr [3] 0), (42, .b ((decide (g.op = (4 : Int))) && false))]) (by kernel_rfl) (by simp only [hc42_30, cond_true, cond_false]; try rfl)) (by kernel_rfl) (by kernel_rfl)
             change AT _ _ _ _
             refine at_cond (b := (bif ((decide (g.op = (3 : Int))) && (decide ((idxF (fcN g.nm) d.fs 0) < (0 : Int)))) then ((decide (g.op = (3 : Int))) && (decide ((idxF (fcN g.nm) d.fs 0) < (0 : Int)))) else ((decide (g.op = (4 : Int))) && false))) rfl rfl (fun h => ?_) (fun h => ?_)
             ·exact absurd (h.symm.trans hs_263) (by decide)
             clear h
             refine at_skip ?_
             exact round_end (q := [4, 6, 21]) [[0, 6, 21], [1, 21], [0, 21], [20], [19], [0, 18], [3], [2], [1], [0]] [(1000000, .any), (4, .ptr [1] 0), (5, .ptr [2] 0), (6, .ptr [3] 0), (22, .fn (.func 75) [.ptr [0, 18] 0])] 63 [23] (fcode Tryd.f44 [1, 1, 0, 1, 1, 0]) (fcode Tryd.f44 [1, 1, 0, 1, 1, 1]) .busy none (by kernel_rfl) rfl (by kernel_rfl)
           refine at_cond (b := false) rfl rfl (fun h => ?_) (fun h => ?_)
           ·cases h
           clear h
           refine at_skip ?_
           change AT _ _ _ _
           refine at_seq ?_
           refine at_B [2, 12, 13, 14] [] [] [(1000000, .any), (2, .ptr [1, 21] 0), (12, .tv (.sli 5 (g.ks.map encF))), (13, .i (((g.ks.map encF).length : Nat) : Int)), (14, .i 0)] (b44_12 g f d) 10 (by kernel_rfl) ?_ ?_
           ·exact trivial
           refine at_block ?_
           refine at_len 12 rfl (fun hlen => ?_)
           have hz0 := one_0 hs_261 hs_262 ((vis_n1 (l := [])).symm.trans hs_263)
           refine at_loopR (X := Nat) 0 (fun (i : Nat) => [(1000000, .any), (2, .ptr [1, 21] 0), (12, .tv (.sli 5 (g.ks.map encF))), (13, .i (((g.ks.map encF).length : Nat) : Int)), (14, .i ((i : Nat) : Int))]) (fun (i : Nat) => (b44_29 f d)) (fun (i : Nat) => i ≤ g.ks.length ∧ errFs (oneR d [] true) (g.ks.drop i) = errF (oneR d [] true) g) (fun (i : Nat) => g.ks.length - i) 0 ?_ ?_ ?_
           ·exact ⟨Nat.zero_le _, vis_start (by simpa using hv) hz0⟩
           ·exact rn_ok [([1, 21], [1, 21]), ([0, 21], [0, 21]), ([20], [20]), ([19], [19]), ([0, 18], [0, 18]), ([3], [3]), ([2], [2]), ([1], [1]), ([0], [0])] [] [2, 12, 13, 14] (trivial) (by kernel_rfl)
           ·intro i hinv
            obtain ⟨hx1, hx2⟩ := hinv
            refine at_B [2, 12, 13, 14, 15] [] [] [(1000000, .any), (2, .ptr [1, 21] 0), (12, .tv (.sli 5 (g.ks.map encF))), (13, .i (((g.ks.map encF).length : Nat) : Int)), (14, .i ((i : Nat) : Int)), (15, .b (decide (((i : Nat) : Int) < (((g.ks.map encF).length : Nat) : Int))))] (b44_29 f d) 1 (by kernel_rfl) ?_ ?_
            ·exact trivial
            refine at_seq ?_
            refine at_cond (b := (decide (((i : Nat) : Int) < (((g.ks.map encF).length : Nat) : Int)))) rfl rfl (fun hc15_26 => ?_) (fun hc15_26 => ?_)
            ·have q15_26 := hc15_26
             (try simp only [brs] at q15_26)
             refine at_skip ?_
             change AT _ _ _ _
             refine at_seq ?_
             refine at_block ?_
             refine at_B [2, 6, 12, 13, 14] [.eq (.tv (.ptr (celF (g.ks.getD i Fm.z))))] [(0 ≤ ((i : Nat) : Int) ∧ ((i : Nat) : Int) < ((((g.ks.map encF) : List (List TV)).length : Nat) : Int)), (.tv (.ptr (rowAt (g.ks.map encF) ((i : Nat) : Int))) : AV) = .tv (.ptr (celF (g.ks.getD i Fm.z)))] [(1000000, .any), (2, .ptr [1, 21] 0), (6, .ptr [3, 10, 6, 21] 0), (12, .tv (.sli 5 (g.ks.map encF))), (13, .i (((g.ks.map encF).length : Nat) : Int)), (14, .i ((i : Nat) : Int))] (b44_14 g i f d) 5 (by kernel_rfl) ?_ ?_
             ·exact ⟨by (try simp only [lns] at *); omega, congrArg (fun c => AV.tv (.ptr c)) (row_F g.ks ((i : Nat) : Int) (by (try simp only [brs, lns] at *); omega)), trivial⟩
             cases hs_264 : ((decide ((errF (oneR d [] true) (g.ks.getD i Fm.z)) = (0 : Int))))
             ·have qhs_264 := hs_264
              (try simp only [brs] at qhs_264)
              refine at_B [2, 12, 13, 14, 21] [.std, .std, .retH (.b false) (b44_30 f d g i)] [CallOK Tryd.prog 76 [agF (g.ks.getD i Fm.z), .ptr [0, 21] 0, .ptr [1, 21] 0] (b44_14 g i f d) [7, 10, 6, 21] (fun v1 H1 => v1 = (.b false) ∧ H1 = (b44_30 f d g i))] [(1000000, .any), (2, .ptr [1, 21] 0), (12, .tv (.sli 5 (g.ks.map encF))), (13, .i (((g.ks.map encF).length : Nat) : Int)), (14, .i ((i : Nat) : Int)), (21, .b true)] (b44_30 f d g i) 9 (by kernel_rfl) ?_ ?_
              ·refine ⟨?_, trivial⟩
               ·exact call_mv [([1, 21], [1, 21]), ([0, 21], [0, 21]), ([20], [20]), ([19], [19]), ([0, 18], [0, 18]), ([3], [3]), ([2], [2]), ([1], [1]), ([0], [0])] [([1, 21], [1, 21]), ([0, 21], [0, 21]), ([20], [20]), ([19], [19]), ([0, 18], [0, 18]), ([3], [3]), ([2], [2]), ([1], [1]), ([0], [0])] [] [] ((ih (g.ks.getD i Fm.z) (getD_mem (by omega))).2 hs_264) (by kernel_rfl) (by kernel_rfl) trivial (by kernel_rfl) (by kernel_rfl) trivial (by kernel_rfl)
              refine at_cond (b := true) rfl rfl (fun h => ?_) (fun h => ?_)
              rotate_left
              ·cases h
              clear h
              refine at_B [4] [] [] [(1000000, .any), (4, .b false)] (b44_30 f d g i) 10 (by kernel_rfl) ?_ ?_
              ·exact trivial
              refine at_ret ?_
              exact fin_in (.inr rfl) [[1, 21], [0, 21], [20], [19], [0, 18], [3], [2], [1], [0]] (.b false) [([1, 21], .row [.fn (.func 76) [.ptr [0, 21] 0, .ptr [1, 21] 0]] false), ([0, 21], .row [.yl [20]] false), ([20], .loop [(1000000, .any), (4, .ptr [1] 0), (5, .ptr [2] 0), (6, .ptr [3] 0), (22, .fn (.func 75) [.ptr [0, 18] 0])] 63 [23] (fcode Tryd.f44 [1, 1, 0, 1, 1, 0]) (fcode Tryd.f44 [1, 1, 0, 1, 1, 1]) .done (some .ret)), ([19], .dfr), ([0, 18], .row ((celF f).map .tv) false), ([3], .row [.i (errF (oneR d [] true) (g.ks.getD i Fm.z))] false), ([2], .row [.tv (.fn 54)] false), ([1], .row ((celD d).map .tv) false), ([0], .row ((celF f).map .tv) false)] (by kernel_rfl) rfl (by show keepH _ _ = [([1, 21], .row [.fn (.func 76) [.ptr [0, 21] 0, .ptr [1, 21] 0]] false), ([0, 21], .row [.yl [20]] false), ([20], .loop [(1000000, .any), (4, .ptr [1] 0), (5, .ptr [2] 0), (6, .ptr [3] 0), (22, .fn (.func 75) [.ptr [0, 18] 0])] 63 [23] (fcode Tryd.f44 [1, 1, 0, 1, 1, 0]) (fcode Tryd.f44 [1, 1, 0, 1, 1, 1]) .done (some .ret)), ([19], .dfr), ([0, 18], .row ((celF f).map .tv) false), ([3], .row [.i (errF (oneR d [] true) g)] false), ([2], .row [.tv (.fn 54)] false), ([1], .row ((celD d).map .tv) false), ([0], .row ((celF f).map .tv) false)]; rw [show errF (oneR d [] true) g = _ from (err_stop (i := i) (by omega) hx2 (of_decide_eq_false hs_264))]; kernel_rfl)
             ·have qhs_264 := hs_264
              (try simp only [brs] at qhs_264)
              refine at_B [2, 12, 13, 14, 21] [.std, .std, .retH (.b true) (b44_29 f d)] [CallOK Tryd.prog 76 [agF (g.ks.getD i Fm.z), .ptr [0, 21] 0, .ptr [1, 21] 0] (b44_14 g i f d) [7, 10, 6, 21] (fun v1 H1 => v1 = (.b true) ∧ H1 = (b44_29 f d))] [(1000000, .any), (2, .ptr [1, 21] 0), (12, .tv (.sli 5 (g.ks.map encF))), (13, .i (((g.ks.map encF).length : Nat) : Int)), (14, .i ((i : Nat) : Int)), (21, .b false)] (b44_29 f d) 9 (by kernel_rfl) ?_ ?_
              ·refine ⟨?_, trivial⟩
               ·exact call_mv [([1, 21], [1, 21]), ([0, 21], [0, 21]), ([20], [20]), ([19], [19]), ([0, 18], [0, 18]), ([3], [3]), ([2], [2]), ([1], [1]), ([0], [0])] [([1, 21], [1, 21]), ([0, 21], [0, 21]), ([20], [20]), ([19], [19]), ([0, 18], [0, 18]), ([3], [3]), ([2], [2]), ([1], [1]), ([0], [0])] [] [] ((ih (g.ks.getD i Fm.z) (getD_mem (by omega))).1 hs_264) (by kernel_rfl) (by kernel_rfl) trivial (by kernel_rfl) (by kernel_rfl) trivial (by kernel_rfl)
              refine at_cond (b := false) rfl rfl (fun h => ?_) (fun h => ?_)
              ·cases h
              clear h
              refine at_skip ?_
              change AT _ _ _ _
              refine at_Bl [2, 12, 13, 14] [.eq (.i ((i + 1 : Nat) : Int))] [(.i (wr (((i : Nat) : Int) + 1)) : AV) = .i ((i + 1 : Nat) : Int)] [(1000000, .any), (2, .ptr [1, 21] 0), (12, .tv (.sli 5 (g.ks.map encF))), (13, .i (((g.ks.map encF).length : Nat) : Int)), (14, .i ((i + 1 : Nat) : Int))] (b44_29 f d) 11 (by kernel_rfl) ?_ ?_
              ·exact ⟨succ_av i (by (try simp only [lns] at *); omega), trivial⟩
              refine ⟨rfl, (i + 1), ?_, ?_, ?_⟩
              ·(try dsimp only); omega
              ·exact ⟨by omega, err_step (by omega) hx2 (of_decide_eq_true hs_264)⟩
              ·exact rn_ok [([1, 21], [1, 21]), ([0, 21], [0, 21]), ([20], [20]), ([19], [19]), ([0, 18], [0, 18]), ([3], [3]), ([2], [2]), ([1], [1]), ([0], [0])] [] [2, 12, 13, 14] (trivial) (by kernel_rfl)
            ·have q15_26 := hc15_26
             (try simp only [brs] at q15_26)
             exact absurd (err_end (i := i) (by omega) hx2) (by simpa using hv)
          ·have qhs_263 := hs_263
           (try simp only [brs] at qhs_263)
           refine at_B [2, 3, 10] [.std, .std, .retY (.b false) (b44_16 g f d)] [YldOK Tryd.prog [20] [agF g] (b44_12 g f d) [4, 6, 21] (fun v1 H1 => v1 = (.b false) ∧ H1 = (b44_16 g f d))] [(1000000, .any), (2, .ptr [1, 21] 0), (3, .ptr [0, 6, 21] 0), (10, .b true)] (b44_16 g f d) 6 (by kernel_rfl) ?_ ?_
           ·refine ⟨?_, trivial⟩
            ·refine yld_in [(1000000, .any), (4, .ptr [1] 0), (5, .ptr [2] 0), (6, .ptr [3] 0), (22, .fn (.func 75) [.ptr [0, 18] 0])] 63 [23] (fcode Tryd.f44 [1, 1, 0, 1, 1, 0]) (fcode Tryd.f44 [1, 1, 0, 1, 1, 1]) none (by kernel_rfl) (by kernel_rfl) (fun lp => ?_)
             change AT _ (fcode Tryd.f44 [1, 1, 0, 1, 1, 0]) _ ⟨[(1000000, .any), (23, agF g), (1000000, .any), (4, .ptr [1] 0), (5, .ptr [2] 0), (6, .ptr [3] 0), (22, .fn (.func 75) [.ptr [0, 18] 0])], (b44_12 g f d), [4, 6, 21], 0⟩
             refine at_Bl [4, 5, 6, 9] [] [] [(1000000, .any), (4, .ptr [1] 0), (5, .ptr [2] 0), (6, .ptr [3] 0), (9, .ptr [0, 4, 6, 21] 0)] (b44_13 g f d) 2 (by kernel_rfl) ?_ ?_
             ·exact trivial
             refine asg_end [(1000000, .any), (4, .ptr [1] 0), (5, .ptr [2] 0), (6, .ptr [3] 0), (22, .fn (.func 75) [.ptr [0, 18] 0])] 63 [23] (fcode Tryd.f44 [1, 1, 0, 1, 1, 0]) none (by kernel_rfl) (H1 := (b44_11 g f d)) (by kernel_rfl) ?_
             refine at_block ?_
             refine at_block ?_
             refine at_B [4, 5, 6, 9, 24] [.std, .ret (.b (formedR g))] [PureCall Tryd.prog 71 [agF g] (.b (formedR g))] [(1000000, .any), (4, .ptr [1] 0), (5, .ptr [2] 0), (6, .ptr [3] 0), (9, .ptr [0, 4, 6, 21] 0), (24, .b (!(formedR g)))] (b44_11 g f d) 6 (by kernel_rfl) ?_ ?_
             ·exact ⟨(c71 g), trivial⟩
             refine at_cond (b := (!(formedR g))) rfl rfl (fun h => ?_) (fun h => ?_)
             ·exact absurd (h.symm.trans hs_261) (by decide)
             clear h
             refine at_B [4, 5, 6, 9, 28] [] [] [(1000000, .any), (4, .ptr [1] 0), (5, .ptr [2] 0), (6, .ptr [3] 0), (9, .ptr [0, 4, 6, 21] 0), (28, .b ((decide (g.op = (3 : Int))) && ((decide (g.n < (0 : Int))) || (decide ((1000000 : Int) < g.n)))))] (b44_11 g f d) 20 (by kernel_rfl) ?_ ?_
             ·exact trivial
             refine at_cond (b := ((decide (g.op = (3 : Int))) && ((decide (g.n < (0 : Int))) || (decide ((1000000 : Int) < g.n))))) rfl rfl (fun h => ?_) (fun h => ?_)
             ·exact absurd (h.symm.trans hs_262) (by decide)
             clear h
             refine at_seq ?_
             refine at_B [5, 6, 9, 42] [.std, .std, .std, .std, .std, .std, .std, .ret (.i (idxF (fcN g.nm) d.fs 0))] [((decide (g.op = (3 : Int))) = true) → PureCall Tryd.prog 57 [agD d, .tv (.str g.nm)] (.i (idxF (fcN g.nm) d.fs 0))] [(1000000, .any), (5, .ptr [2] 0), (6, .ptr [3] 0), (9, .ptr [0, 4, 6, 21] 0), (42, .b ((decide (g.op = (3 : Int))) && (decide ((idxF (fcN g.nm) d.fs 0) < (0 : Int)))))] (b44_11 g f d) 31 (by kernel_rfl) ?_ ?_
             ·exact ⟨fun hg0 => (c57 d g.nm), trivial⟩
             refine at_mergel (p := [4, 6, 21]) [(1000000, .any), (6, .ptr [3] 0), (42, .b (bif ((decide (g.op = (3 : Int))) && (decide ((idxF (fcN g.nm) d.fs 0) < (0 : Int)))) then ((decide (g.op = (3 : Int))) && (decide ((idxF (fcN g.nm) d.fs 0) < (0 : Int)))) else ((decide (g.op = (4 : Int))) && false)))] [([0, 4, 6, 21], .row ((celF g).map .tv) false), ([0, 6, 21], .row ((celF g).map .tv) false), ([1, 21], .row [.fn (.func 76) [.ptr [0, 21] 0, .ptr [1, 21] 0]] false), ([0, 21], .row [.yl [20]] false), ([20], .loop [(1000000, .any), (4, .ptr [1] 0), (5, .ptr [2] 0), (6, .ptr [3] 0), (22, .fn (.func 75) [.ptr [0, 18] 0])] 63 [23] (fcode Tryd.f44 [1, 1, 0, 1, 1, 0]) (fcode Tryd.f44 [1, 1, 0, 1, 1, 1]) .busy none), ([19], .dfr), ([0, 18], .row ((celF f).map .tv) false), ([3], .row [.i 0] false), ([2], .row [.tv (.fn 54)] false), ([1], .row ((celD d).map .tv) false), ([0], .row ((celF f).map .tv) false)] 42 ?_ ?_
             ·refine at_cond (b := ((decide (g.op = (3 : Int))) && (decide ((idxF (fcN g.nm) d.fs 0) < (0 : Int))))) rfl rfl (fun hc42_31 => ?_) (fun hc42_31 => ?_)
              ·skip
               refine at_skip ?_
               exact gh_merge [6, 42] [[0, 4, 6, 21], [0, 6, 21], [1, 21], [0, 21], [20], [19], [0, 18], [3], [2], [1], [0]] (Eq.trans (b := [(1000000, .any), (6, .ptr [3] 0), (42, .b ((decide (g.op = (3 : Int))) && (decide ((idxF (fcN g.nm) d.fs 0) < (0 : Int)))))]) (by kernel_rfl) (by simp only [hc42_31, cond_true, cond_false]; try rfl)) (by kernel_rfl) (by kernel_rfl)
              ·skip
               refine at_Bl [6, 42] [.std, .std, .std, .std, .std, .std, .std, .ret (.b true)] [((decide (g.op = (4 : Int))) = true) → PureCall Tryd.prog 54 [.tv (.str g.nm)] (.b true)] [(1000000, .any), (6, .ptr [3] 0), (42, .b ((decide (g.op = (4 : Int))) && false))] (b44_11 g f d) 42 (by kernel_rfl) ?_ ?_
               ·exact ⟨fun hg0 => (c54 g.nm), trivial⟩
               exact gh_merge [6, 42] [[0, 4, 6, 21], [0, 6, 21], [1, 21], [0, 21], [20], [19], [0, 18], [3], [2], [1], [0]] (Eq.trans (b := [(1000000, .any), (6, .ptr [3] 0), (42, .b ((decide (g.op = (4 : Int))) && false))]) (by kernel_rfl) (by simp only [hc42_31, cond_true, cond_false]; try rfl)) (by kernel_rfl) (by kernel_rfl)
             change AT _ _ _ _
             refine at_cond (b := (bif ((decide (g.op = (3 : Int))) && (decide ((idxF (fcN g.nm) d.fs 0) < (0 : Int)))) then ((decide (g.op = (3 : Int))) && (decide ((idxF (fcN g.nm) d.fs 0) < (0 : Int)))) else ((decide (g.op = (4 : Int))) && false))) rfl rfl (fun h => ?_) (fun h => ?_)
             rotate_left
             ·exact absurd (h.symm.trans hs_263) (by decide)
             clear h
             refine at_B [6] [] [] [(1000000, .any), (6, .ptr [3] 0)] (b44_22 g f d) 43 (by kernel_rfl) ?_ ?_
             ·exact trivial
             refine at_ret ?_
             exact round_ret (q := [4, 6, 21]) [[0, 6, 21], [1, 21], [0, 21], [20], [19], [0, 18], [3], [2], [1], [0]] [(1000000, .any), (4, .ptr [1] 0), (5, .ptr [2] 0), (6, .ptr [3] 0), (22, .fn (.func 75) [.ptr [0, 18] 0])] 63 [23] (fcode Tryd.f44 [1, 1, 0, 1, 1, 0]) (fcode Tryd.f44 [1, 1, 0, 1, 1, 1]) .busy none (by kernel_rfl) rfl (by kernel_rfl)
           refine at_cond (b := true) rfl rfl (fun h => ?_) (fun h => ?_)
           rotate_left
           ·cases h
           clear h
           refine at_B [4] [] [] [(1000000, .any), (4, .b false)] (b44_16 g f d) 7 (by kernel_rfl) ?_ ?_
           ·exact trivial
           refine at_ret ?_
           exact fin_in (.inr rfl) [[1, 21], [0, 21], [20], [19], [0, 18], [3], [2], [1], [0]] (.b false) [([0, 6, 21], .row ((celF g).map .tv) false), ([1, 21], .row [.fn (.func 76) [.ptr [0, 21] 0, .ptr [1, 21] 0]] false), ([0, 21], .row [.yl [20]] false), ([20], .loop [(1000000, .any), (4, .ptr [1] 0), (5, .ptr [2] 0), (6, .ptr [3] 0), (22, .fn (.func 75) [.ptr [0, 18] 0])] 63 [23] (fcode Tryd.f44 [1, 1, 0, 1, 1, 0]) (fcode Tryd.f44 [1, 1, 0, 1, 1, 1]) .done (some .ret)), ([19], .dfr), ([0, 18], .row ((celF f).map .tv) false), ([3], .row [.i 7] false), ([2], .row [.tv (.fn 54)] false), ([1], .row ((celD d).map .tv) false), ([0], .row ((celF f).map .tv) false)] (by kernel_rfl) rfl (by show keepH _ _ = [([1, 21], .row [.fn (.func 76) [.ptr [0, 21] 0, .ptr [1, 21] 0]] false), ([0, 21], .row [.yl [20]] false), ([20], .loop [(1000000, .any), (4, .ptr [1] 0), (5, .ptr [2] 0), (6, .ptr [3] 0), (22, .fn (.func 75) [.ptr [0, 18] 0])] 63 [23] (fcode Tryd.f44 [1, 1, 0, 1, 1, 0]) (fcode Tryd.f44 [1, 1, 0, 1, 1, 1]) .done (some .ret)), ([19], .dfr), ([0, 18], .row ((celF f).map .tv) false), ([3], .row [.i (errF (oneR d [] true) g)] false), ([2], .row [.tv (.fn 54)] false), ([1], .row ((celD d).map .tv) false), ([0], .row ((celF f).map .tv) false)]; rw [show errF (oneR d [] true) g = _ from (err_at (one_7 hs_261 hs_262 ((vis_n1 (l := [])).symm.trans hs_263)) (by decide))]; kernel_rfl)
         ·have qhs_262 := hs_262
          (try simp only [brs] at qhs_262)
          refine at_B [2, 3, 10] [.std, .std, .retY (.b false) (b44_15 g f d)] [YldOK Tryd.prog [20] [agF g] (b44_12 g f d) [4, 6, 21] (fun v1 H1 => v1 = (.b false) ∧ H1 = (b44_15 g f d))] [(1000000, .any), (2, .ptr [1, 21] 0), (3, .ptr [0, 6, 21] 0), (10, .b true)] (b44_15 g f d) 6 (by kernel_rfl) ?_ ?_
          ·refine ⟨?_, trivial⟩
           ·refine yld_in [(1000000, .any), (4, .ptr [1] 0), (5, .ptr [2] 0), (6, .ptr [3] 0), (22, .fn (.func 75) [.ptr [0, 18] 0])] 63 [23] (fcode Tryd.f44 [1, 1, 0, 1, 1, 0]) (fcode Tryd.f44 [1, 1, 0, 1, 1, 1]) none (by kernel_rfl) (by kernel_rfl) (fun lp => ?_)
            change AT _ (fcode Tryd.f44 [1, 1, 0, 1, 1, 0]) _ ⟨[(1000000, .any), (23, agF g), (1000000, .any), (4, .ptr [1] 0), (5, .ptr [2] 0), (6, .ptr [3] 0), (22, .fn (.func 75) [.ptr [0, 18] 0])], (b44_12 g f d), [4, 6, 21], 0⟩
            refine at_Bl [4, 5, 6, 9] [] [] [(1000000, .any), (4, .ptr [1] 0), (5, .ptr [2] 0), (6, .ptr [3] 0), (9, .ptr [0, 4, 6, 21] 0)] (b44_13 g f d) 2 (by kernel_rfl) ?_ ?_
            ·exact trivial
            refine asg_end [(1000000, .any), (4, .ptr [1] 0), (5, .ptr [2] 0), (6, .ptr [3] 0), (22, .fn (.func 75) [.ptr [0, 18] 0])] 63 [23] (fcode Tryd.f44 [1, 1, 0, 1, 1, 0]) none (by kernel_rfl) (H1 := (b44_11 g f d)) (by kernel_rfl) ?_
            refine at_block ?_
            refine at_block ?_
            refine at_B [4, 5, 6, 9, 24] [.std, .ret (.b (formedR g))] [PureCall Tryd.prog 71 [agF g] (.b (formedR g))] [(1000000, .any), (4, .ptr [1] 0), (5, .ptr [2] 0), (6, .ptr [3] 0), (9, .ptr [0, 4, 6, 21] 0), (24, .b (!(formedR g)))] (b44_11 g f d) 6 (by kernel_rfl) ?_ ?_
            ·exact ⟨(c71 g), trivial⟩
            refine at_cond (b := (!(formedR g))) rfl rfl (fun h => ?_) (fun h => ?_)
            ·exact absurd (h.symm.trans hs_261) (by decide)
            clear h
            refine at_B [4, 5, 6, 9, 28] [] [] [(1000000, .any), (4, .ptr [1] 0), (5, .ptr [2] 0), (6, .ptr [3] 0), (9, .ptr [0, 4, 6, 21] 0), (28, .b ((decide (g.op = (3 : Int))) && ((decide (g.n < (0 : Int))) || (decide ((1000000 : Int) < g.n)))))] (b44_11 g f d) 20 (by kernel_rfl) ?_ ?_
            ·exact trivial
            refine at_cond (b := ((decide (g.op = (3 : Int))) && ((decide (g.n < (0 : Int))) || (decide ((1000000 : Int) < g.n))))) rfl rfl (fun h => ?_) (fun h => ?_)
            rotate_left
            ·exact absurd (h.symm.trans hs_262) (by decide)
            clear h
            refine at_B [6] [] [] [(1000000, .any), (6, .ptr [3] 0)] (b44_21 g f d) 21 (by kernel_rfl) ?_ ?_
            ·exact trivial
            refine at_ret ?_
            exact round_ret (q := [4, 6, 21]) [[0, 6, 21], [1, 21], [0, 21], [20], [19], [0, 18], [3], [2], [1], [0]] [(1000000, .any), (4, .ptr [1] 0), (5, .ptr [2] 0), (6, .ptr [3] 0), (22, .fn (.func 75) [.ptr [0, 18] 0])] 63 [23] (fcode Tryd.f44 [1, 1, 0, 1, 1, 0]) (fcode Tryd.f44 [1, 1, 0, 1, 1, 1]) .busy none (by kernel_rfl) rfl (by kernel_rfl)
          refine at_cond (b := true) rfl rfl (fun h => ?_) (fun h => ?_)
          rotate_left
          ·cases h
          clear h
          refine at_B [4] [] [] [(1000000, .any), (4, .b false)] (b44_15 g f d) 7 (by kernel_rfl) ?_ ?_
          ·exact trivial
          refine at_ret ?_
          exact fin_in (.inr rfl) [[1, 21], [0, 21], [20], [19], [0, 18], [3], [2], [1], [0]] (.b false) [([0, 6, 21], .row ((celF g).map .tv) false), ([1, 21], .row [.fn (.func 76) [.ptr [0, 21] 0, .ptr [1, 21] 0]] false), ([0, 21], .row [.yl [20]] false), ([20], .loop [(1000000, .any), (4, .ptr [1] 0), (5, .ptr [2] 0), (6, .ptr [3] 0), (22, .fn (.func 75) [.ptr [0, 18] 0])] 63 [23] (fcode Tryd.f44 [1, 1, 0, 1, 1, 0]) (fcode Tryd.f44 [1, 1, 0, 1, 1, 1]) .done (some .ret)), ([19], .dfr), ([0, 18], .row ((celF f).map .tv) false), ([3], .row [.i 10] false), ([2], .row [.tv (.fn 54)] false), ([1], .row ((celD d).map .tv) false), ([0], .row ((celF f).map .tv) false)] (by kernel_rfl) rfl (by show keepH _ _ = [([1, 21], .row [.fn (.func 76) [.ptr [0, 21] 0, .ptr [1, 21] 0]] false), ([0, 21], .row [.yl [20]] false), ([20], .loop [(1000000, .any), (4, .ptr [1] 0), (5, .ptr [2] 0), (6, .ptr [3] 0), (22, .fn (.func 75) [.ptr [0, 18] 0])] 63 [23] (fcode Tryd.f44 [1, 1, 0, 1, 1, 0]) (fcode Tryd.f44 [1, 1, 0, 1, 1, 1]) .done (some .ret)), ([19], .dfr), ([0, 18], .row ((celF f).map .tv) false), ([3], .row [.i (errF (oneR d [] true) g)] false), ([2], .row [.tv (.fn 54)] false), ([1], .row ((celD d).map .tv) false), ([0], .row ((celF f).map .tv) false)]; rw [show errF (oneR d [] true) g = _ from (err_at (one_10 hs_261 hs_262) (by decide))]; kernel_rfl)
        ·have qhs_261 := hs_261
         (try simp only [brs] at qhs_261)
         refine at_B [2, 3, 10] [.std, .std, .retY (.b false) (b44_17 g f d)] [YldOK Tryd.prog [20] [agF g] (b44_12 g f d) [4, 6, 21] (fun v1 H1 => v1 = (.b false) ∧ H1 = (b44_17 g f d))] [(1000000, .any), (2, .ptr [1, 21] 0), (3, .ptr [0, 6, 21] 0), (10, .b true)] (b44_17 g f d) 6 (by kernel_rfl) ?_ ?_
         ·refine ⟨?_, trivial⟩
          ·refine yld_in [(1000000, .any), (4, .ptr [1] 0), (5, .ptr [2] 0), (6, .ptr [3] 0), (22, .fn (.func 75) [.ptr [0, 18] 0])] 63 [23] (fcode Tryd.f44 [1, 1, 0, 1, 1, 0]) (fcode Tryd.f44 [1, 1, 0, 1, 1, 1]) none (by kernel_rfl) (by kernel_rfl) (fun lp => ?_)
           change AT _ (fcode Tryd.f44 [1, 1, 0, 1, 1, 0]) _ ⟨[(1000000, .any), (23, agF g), (1000000, .any), (4, .ptr [1] 0), (5, .ptr [2] 0), (6, .ptr [3] 0), (22, .fn (.func 75) [.ptr [0, 18] 0])], (b44_12 g f d), [4, 6, 21], 0⟩
           refine at_Bl [4, 5, 6, 9] [] [] [(1000000, .any), (4, .ptr [1] 0), (5, .ptr [2] 0), (6, .ptr [3] 0), (9, .ptr [0, 4, 6, 21] 0)] (b44_13 g f d) 2 (by kernel_rfl) ?_ ?_
           ·exact trivial
           refine asg_end [(1000000, .any), (4, .ptr [1] 0), (5, .ptr [2] 0), (6, .ptr [3] 0), (22, .fn (.func 75) [.ptr [0, 18] 0])] 63 [23] (fcode Tryd.f44 [1, 1, 0, 1, 1, 0]) none (by kernel_rfl) (H1 := (b44_11 g f d)) (by kernel_rfl) ?_
           refine at_block ?_
           refine at_block ?_
           refine at_B [4, 5, 6, 9, 24] [.std, .ret (.b (formedR g))] [PureCall Tryd.prog 71 [agF g] (.b (formedR g))] [(1000000, .any), (4, .ptr [1] 0), (5, .ptr [2] 0), (6, .ptr [3] 0), (9, .ptr [0, 4, 6, 21] 0), (24, .b (!(formedR g)))] (b44_11 g f d) 6 (by kernel_rfl) ?_ ?_
           ·exact ⟨(c71 g), trivial⟩
           refine at_cond (b := (!(formedR g))) rfl rfl (fun h => ?_) (fun h => ?_)
           rotate_left
           ·exact absurd (h.symm.trans hs_261) (by decide)
           clear h
           refine at_B [6] [] [] [(1000000, .any), (6, .ptr [3] 0)] (b44_23 g f d) 7 (by kernel_rfl) ?_ ?_
           ·exact trivial
           refine at_ret ?_
           exact round_ret (q := [4, 6, 21]) [[0, 6, 21], [1, 21], [0, 21], [20], [19], [0, 18], [3], [2], [1], [0]] [(1000000, .any), (4, .ptr [1] 0), (5, .ptr [2] 0), (6, .ptr [3] 0), (22, .fn (.func 75) [.ptr [0, 18] 0])] 63 [23] (fcode Tryd.f44 [1, 1, 0, 1, 1, 0]) (fcode Tryd.f44 [1, 1, 0, 1, 1, 1]) .busy none (by kernel_rfl) rfl (by kernel_rfl)
         refine at_cond (b := true) rfl rfl (fun h => ?_) (fun h => ?_)
         rotate_left
         ·cases h
         clear h
         refine at_B [4] [] [] [(1000000, .any), (4, .b false)] (b44_17 g f d) 7 (by kernel_rfl) ?_ ?_
         ·exact trivial
         refine at_ret ?_
         exact fin_in (.inr rfl) [[1, 21], [0, 21], [20], [19], [0, 18], [3], [2], [1], [0]] (.b false) [([0, 6, 21], .row ((celF g).map .tv) false), ([1, 21], .row [.fn (.func 76) [.ptr [0, 21] 0, .ptr [1, 21] 0]] false), ([0, 21], .row [.yl [20]] false), ([20], .loop [(1000000, .any), (4, .ptr [1] 0), (5, .ptr [2] 0), (6, .ptr [3] 0), (22, .fn (.func 75) [.ptr [0, 18] 0])] 63 [23] (fcode Tryd.f44 [1, 1, 0, 1, 1, 0]) (fcode Tryd.f44 [1, 1, 0, 1, 1, 1]) .done (some .ret)), ([19], .dfr), ([0, 18], .row ((celF f).map .tv) false), ([3], .row [.i 1] false), ([2], .row [.tv (.fn 54)] false), ([1], .row ((celD d).map .tv) false), ([0], .row ((celF f).map .tv) false)] (by kernel_rfl) rfl (by show keepH _ _ = [([1, 21], .row [.fn (.func 76) [.ptr [0, 21] 0, .ptr [1, 21] 0]] false), ([0, 21], .row [.yl [20]] false), ([20], .loop [(1000000, .any), (4, .ptr [1] 0), (5, .ptr [2] 0), (6, .ptr [3] 0), (22, .fn (.func 75) [.ptr [0, 18] 0])] 63 [23] (fcode Tryd.f44 [1, 1, 0, 1, 1, 0]) (fcode Tryd.f44 [1, 1, 0, 1, 1, 1]) .done (some .ret)), ([19], .dfr), ([0, 18], .row ((celF f).map .tv) false), ([3], .row [.i (errF (oneR d [] true) g)] false), ([2], .row [.tv (.fn 54)] false), ([1], .row ((celD d).map .tv) false), ([0], .row ((celF f).map .tv) false)]; rw [show errF (oneR d [] true) g = _ from (err_at (one_1 hs_261) (by decide))]; kernel_rfl)
      exact (vis f).2 hs1
    exact fin_in (.inl rfl) [[20], [19], [0, 18], [3], [2], [1], [0]] (.tup []) (b44_31 f d) (by kernel_rfl) rfl (by kernel_rfl)
   refine fin0 (.inr rfl) (.i (errF (oneR d [] true) f)) (b44_28 f d) (.i (errF (oneR d [] true) f)) (H2 := (b44_28 f d)) (by kernel_rfl) (by kernel_rfl) ?_
   refine Le.of_eq ?_
   rw [checkA, largeR, hc20]; rfl
  ·have qhs1 := hs1
   refine at_rf 75 [.ptr [0, 18] 0] (.tup []) (b44_32 f d) [(1000000, .any), (4, .ptr [1] 0), (5, .ptr [2] 0), (6, .ptr [3] 0), (22, .fn (.func 75) [.ptr [0, 18] 0])] 63 [23] (fcode Tryd.f44 [1, 1, 0, 1, 1, 0]) (fcode Tryd.f44 [1, 1, 0, 1, 1, 1]) [4, 5, 6, 22] [[19], [0, 18], [3], [2], [1], [0]] [(1000000, .ds [.ptr [19] 0]), (4, .ptr [1] 0), (5, .ptr [2] 0), (6, .ptr [3] 0), (22, .fn (.func 75) [.ptr [0, 18] 0])] (b44_27 f d) (by kernel_rfl) rfl (by kernel_rfl) ?_ (by kernel_rfl) (by kernel_rfl) rfl (by kernel_rfl) ?_
   ·refine call_in (fn := Tryd.f75) [] Tryd.func75 rfl (by kernel_rfl) rfl ?_
    change AT _ _ _ ⟨[(0, .yl [20]), (1, .ptr [0, 18] 0)], (b44_32 f d), [21], 0⟩
    refine at_B [1, 2] [] [] [(1000000, .any), (1, .ptr [0, 18] 0), (2, .ptr [0, 21] 0)] (b44_25 f d) 1 (by kernel_rfl) ?_ ?_
    ·exact trivial
    refine at_B [1, 2, 3] [] [] [(1000000, .any), (1, .ptr [0, 18] 0), (2, .ptr [0, 21] 0), (3, .ptr [1, 21] 0)] (b44_20 f d) 2 (by kernel_rfl) ?_ ?_
    ·exact trivial
    refine at_B [1, 3] [] [] [(1000000, .any), (1, .ptr [0, 18] 0), (3, .ptr [1, 21] 0)] (b44_29 f d) 4 (by kernel_rfl) ?_ ?_
    ·exact trivial
    refine at_Bl [] [.std, .std, .retH (.b true) (b44_29 f d)] [CallOK Tryd.prog 76 [agF f, .ptr [0, 21] 0, .ptr [1, 21] 0] (b44_29 f d) [6, 21] (fun v1 H1 => v1 = (.b true) ∧ H1 = (b44_29 f d))] [(1000000, .any)] (b44_29 f d) 7 (by kernel_rfl) ?_ ?_
    ·refine ⟨?_, trivial⟩
     ·have vis : ∀ g : Fm, ((decide ((errF (oneR d [] true) g) = (0 : Int))) = true → CallOK Tryd.prog 76 [agF g, .ptr [0, 21] 0, .ptr [1, 21] 0] (b44_29 f d) [6, 21] (fun v1 H1 => v1 = (.b true) ∧ H1 = (b44_29 f d))) ∧ ((decide ((errF (oneR d [] true) g) = (0 : Int))) = false → CallOK Tryd.prog 76 [agF g, .ptr [0, 21] 0, .ptr [1, 21] 0] (b44_29 f d) [6, 21] (fun v1 H1 => v1 = (.b false) ∧ H1 = (b44_33 f d g))) := by
       refine Fm.ind (fun g ih => ⟨fun hv => ?_, fun hv => ?_⟩)
       ·have hz := errF_zero (of_decide_eq_true hv)
        have ho := one_zero hz.1
        obtain ⟨hk0, hk1, hk2⟩ := vis_known1 ho
        refine call_in (fn := Tryd.f76) [.tmp 4] Tryd.func76 rfl (by kernel_rfl) rfl ?_
        change AT _ _ _ ⟨[(0, agF g), (1, .ptr [0, 21] 0), (2, .ptr [1, 21] 0)], (b44_29 f d), [6, 21], 0⟩
        refine at_B [1, 2, 3] [] [] [(1000000, .any), (1, .ptr [0, 21] 0), (2, .ptr [1, 21] 0), (3, .ptr [0, 6, 21] 0)] (b44_12 g f d) 2 (by kernel_rfl) ?_ ?_
        ·exact trivial
        refine at_seq ?_
        refine at_B [2, 3, 10] [.std, .std, .retY (.b true) (b44_12 g f d)] [YldOK Tryd.prog [20] [agF g] (b44_12 g f d) [4, 6, 21] (fun v1 H1 => v1 = (.b true) ∧ H1 = (b44_12 g f d))] [(1000000, .any), (2, .ptr [1, 21] 0), (3, .ptr [0, 6, 21] 0), (10, .b false)] (b44_12 g f d) 6 (by kernel_rfl) ?_ ?_
        ·refine ⟨?_, trivial⟩
         ·refine yld_in [(1000000, .any), (4, .ptr [1] 0), (5, .ptr [2] 0), (6, .ptr [3] 0), (22, .fn (.func 75) [.ptr [0, 18] 0])] 63 [23] (fcode Tryd.f44 [1, 1, 0, 1, 1, 0]) (fcode Tryd.f44 [1, 1, 0, 1, 1, 1]) none (by kernel_rfl) (by kernel_rfl) (fun lp => ?_)
          change AT _ (fcode Tryd.f44 [1, 1, 0, 1, 1, 0]) _ ⟨[(1000000, .any), (23, agF g), (1000000, .any), (4, .ptr [1] 0), (5, .ptr [2] 0), (6, .ptr [3] 0), (22, .fn (.func 75) [.ptr [0, 18] 0])], (b44_12 g f d), [4, 6, 21], 0⟩
          refine at_Bl [4, 5, 6, 9] [] [] [(1000000, .any), (4, .ptr [1] 0), (5, .ptr [2] 0), (6, .ptr [3] 0), (9, .ptr [0, 4, 6, 21] 0)] (b44_13 g f d) 2 (by kernel_rfl) ?_ ?_
          ·exact trivial
          refine asg_end [(1000000, .any), (4, .ptr [1] 0), (5, .ptr [2] 0), (6, .ptr [3] 0), (22, .fn (.func 75) [.ptr [0, 18] 0])] 63 [23] (fcode Tryd.f44 [1, 1, 0, 1, 1, 0]) none (by kernel_rfl) (H1 := (b44_11 g f d)) (by kernel_rfl) ?_
          refine at_block ?_
          refine at_block ?_
          refine at_B [4, 5, 6, 9, 24] [.std, .ret (.b (formedR g))] [PureCall Tryd.prog 71 [agF g] (.b (formedR g))] [(1000000, .any), (4, .ptr [1] 0), (5, .ptr [2] 0), (6, .ptr [3] 0), (9, .ptr [0, 4, 6, 21] 0), (24, .b (!(formedR g)))] (b44_11 g f d) 6 (by kernel_rfl) ?_ ?_
          ·exact ⟨(c71 g), trivial⟩
          refine at_cond (b := (!(formedR g))) rfl rfl (fun h => ?_) (fun h => ?_)
          ·exact absurd (h.symm.trans hk0) (by decide)
          clear h
          refine at_B [4, 5, 6, 9, 28] [] [] [(1000000, .any), (4, .ptr [1] 0), (5, .ptr [2] 0), (6, .ptr [3] 0), (9, .ptr [0, 4, 6, 21] 0), (28, .b ((decide (g.op = (3 : Int))) && ((decide (g.n < (0 : Int))) || (decide ((1000000 : Int) < g.n)))))] (b44_11 g f d) 20 (by kernel_rfl) ?_ ?_
          ·exact trivial
          refine at_cond (b := ((decide (g.op = (3 : Int))) && ((decide (g.n < (0 : Int))) || (decide ((1000000 : Int) < g.n))))) rfl rfl (fun h => ?_) (fun h => ?_)
          ·exact absurd (h.symm.trans hk1) (by decide)
          clear h
          refine at_seq ?_
          refine at_B [5, 6, 9, 42] [.std, .std, .std, .std, .std, .std, .std, .ret (.i (idxF (fcN g.nm) d.fs 0))] [((decide (g.op = (3 : Int))) = true) → PureCall Tryd.prog 57 [agD d, .tv (.str g.nm)] (.i (idxF (fcN g.nm) d.fs 0))] [(1000000, .any), (5, .ptr [2] 0), (6, .ptr [3] 0), (9, .ptr [0, 4, 6, 21] 0), (42, .b ((decide (g.op = (3 : Int))) && (decide ((idxF (fcN g.nm) d.fs 0) < (0 : Int)))))] (b44_11 g f d) 31 (by kernel_rfl) ?_ ?_
          ·exact ⟨fun hg0 => (c57 d g.nm), trivial⟩
          refine at_mergel (p := [4, 6, 21]) [(1000000, .any), (6, .ptr [3] 0), (42, .b (bif ((decide (g.op = (3 : Int))) && (decide ((idxF (fcN g.nm) d.fs 0) < (0 : Int)))) then ((decide (g.op = (3 : Int))) && (decide ((idxF (fcN g.nm) d.fs 0) < (0 : Int)))) else ((decide (g.op = (4 : Int))) && false)))] [([0, 4, 6, 21], .row ((celF g).map .tv) false), ([0, 6, 21], .row ((celF g).map .tv) false), ([1, 21], .row [.fn (.func 76) [.ptr [0, 21] 0, .ptr [1, 21] 0]] false), ([0, 21], .row [.yl [20]] false), ([20], .loop [(1000000, .any), (4, .ptr [1] 0), (5, .ptr [2] 0), (6, .ptr [3] 0), (22, .fn (.func 75) [.ptr [0, 18] 0])] 63 [23] (fcode Tryd.f44 [1, 1, 0, 1, 1, 0]) (fcode Tryd.f44 [1, 1, 0, 1, 1, 1]) .busy none), ([19], .dfr), ([0, 18], .row ((celF f).map .tv) false), ([3], .row [.i 0] false), ([2], .row [.tv (.fn 54)] false), ([1], .row ((celD d).map .tv) false), ([0], .row ((celF f).map .tv) false)] 42 ?_ ?_
          ·refine at_cond (b := ((decide (g.op = (3 : Int))) && (decide ((idxF (fcN g.nm) d.fs 0) < (0 : Int))))) rfl rfl (fun hc42_36 => ?_) (fun hc42_36 => ?_)
           ·skip
            refine at_skip ?_
            exact gh_merge [6, 42] [[0, 4, 6, 21], [0, 6, 21], [1, 21], [0, 21], [20], [19], [0, 18], [3], [2], [1], [0]] (Eq.trans (b := [(1000000, .any), (6, .ptr [3] 0), (42, .b ((decide (g.op = (3 : Int))) && (decide ((idxF (fcN g.nm) d.fs 0) < (0 : Int)))))]) (by kernel_rfl) (by simp only [hc42_36, cond_true, cond_false]; try rfl)) (by kernel_rfl) (by kernel_rfl)
           ·skip
            refine at_Bl [6, 42] [.std, .std, .std, .std, .std, .std, .std, .ret (.b true)] [((decide (g.op = (4 : Int))) = true) → PureCall Tryd.prog 54 [.tv (.str g.nm)] (.b true)] [(1000000, .any), (6, .ptr [3] 0), (42, .b ((decide (g.op = (4 : Int))) && false))] (b44_11 g f d) 42 (by kernel_rfl) ?_ ?_
            ·exact ⟨fun hg0 => (c54 g.nm), trivial⟩
            exact gh_merge [6, 42] [[0, 4, 6, 21], [0, 6, 21], [1, 21], [0, 21], [20], [19], [0, 18], [3], [2], [1], [0]] (Eq.trans (b := [(1000000, .any), (6, .ptr [3] 0), (42, .b ((decide (g.op = (4 : Int))) && false))]) (by kernel_rfl) (by simp only [hc42_36, cond_true, cond_false]; try rfl)) (by kernel_rfl) (by kernel_rfl)
          change AT _ _ _ _
          refine at_cond (b := (bif ((decide (g.op = (3 : Int))) && (decide ((idxF (fcN g.nm) d.fs 0) < (0 : Int)))) then ((decide (g.op = (3 : Int))) && (decide ((idxF (fcN g.nm) d.fs 0) < (0 : Int)))) else ((decide (g.op = (4 : Int))) && false))) rfl rfl (fun h => ?_) (fun h => ?_)
          ·exact absurd (h.symm.trans hk2) (by decide)
          clear h
          refine at_skip ?_
          exact round_end (q := [4, 6, 21]) [[0, 6, 21], [1, 21], [0, 21], [20], [19], [0, 18], [3], [2], [1], [0]] [(1000000, .any), (4, .ptr [1] 0), (5, .ptr [2] 0), (6, .ptr [3] 0), (22, .fn (.func 75) [.ptr [0, 18] 0])] 63 [23] (fcode Tryd.f44 [1, 1, 0, 1, 1, 0]) (fcode Tryd.f44 [1, 1, 0, 1, 1, 1]) .busy none (by kernel_rfl) rfl (by kernel_rfl)
        refine at_cond (b := false) rfl rfl (fun h => ?_) (fun h => ?_)
        ·cases h
        clear h
        refine at_skip ?_
        change AT _ _ _ _
        refine at_seq ?_
        refine at_B [2, 12, 13, 14] [] [] [(1000000, .any), (2, .ptr [1, 21] 0), (12, .tv (.sli 5 (g.ks.map encF))), (13, .i (((g.ks.map encF).length : Nat) : Int)), (14, .i 0)] (b44_12 g f d) 10 (by kernel_rfl) ?_ ?_
        ·exact trivial
        refine at_block ?_
        refine at_len 12 rfl (fun hlen => ?_)
        refine at_loopR (X := Nat) 0 (fun (i : Nat) => [(1000000, .any), (2, .ptr [1, 21] 0), (12, .tv (.sli 5 (g.ks.map encF))), (13, .i (((g.ks.map encF).length : Nat) : Int)), (14, .i ((i : Nat) : Int))]) (fun (i : Nat) => (b44_29 f d)) (fun (i : Nat) => i ≤ g.ks.length) (fun (i : Nat) => g.ks.length - i) 0 ?_ ?_ ?_
        ·exact Nat.zero_le _
        ·exact rn_ok [([1, 21], [1, 21]), ([0, 21], [0, 21]), ([20], [20]), ([19], [19]), ([0, 18], [0, 18]), ([3], [3]), ([2], [2]), ([1], [1]), ([0], [0])] [] [2, 12, 13, 14] (trivial) (by kernel_rfl)
        ·intro i hinv
         have hx1 := hinv
         refine at_B [2, 12, 13, 14, 15] [] [] [(1000000, .any), (2, .ptr [1, 21] 0), (12, .tv (.sli 5 (g.ks.map encF))), (13, .i (((g.ks.map encF).length : Nat) : Int)), (14, .i ((i : Nat) : Int)), (15, .b (decide (((i : Nat) : Int) < (((g.ks.map encF).length : Nat) : Int))))] (b44_29 f d) 1 (by kernel_rfl) ?_ ?_
         ·exact trivial
         refine at_seq ?_
         refine at_cond (b := (decide (((i : Nat) : Int) < (((g.ks.map encF).length : Nat) : Int)))) rfl rfl (fun hc15_35 => ?_) (fun hc15_35 => ?_)
         ·have q15_35 := hc15_35
          (try simp only [brs] at q15_35)
          refine at_skip ?_
          change AT _ _ _ _
          refine at_seq ?_
          refine at_block ?_
          refine at_B [2, 6, 12, 13, 14] [.eq (.tv (.ptr (celF (g.ks.getD i Fm.z))))] [(0 ≤ ((i : Nat) : Int) ∧ ((i : Nat) : Int) < ((((g.ks.map encF) : List (List TV)).length : Nat) : Int)), (.tv (.ptr (rowAt (g.ks.map encF) ((i : Nat) : Int))) : AV) = .tv (.ptr (celF (g.ks.getD i Fm.z)))] [(1000000, .any), (2, .ptr [1, 21] 0), (6, .ptr [3, 10, 6, 21] 0), (12, .tv (.sli 5 (g.ks.map encF))), (13, .i (((g.ks.map encF).length : Nat) : Int)), (14, .i ((i : Nat) : Int))] (b44_14 g i f d) 5 (by kernel_rfl) ?_ ?_
          ·exact ⟨by (try simp only [lns] at *); omega, congrArg (fun c => AV.tv (.ptr c)) (row_F g.ks ((i : Nat) : Int) (by (try simp only [brs, lns] at *); omega)), trivial⟩
          have hkid : (decide ((errF (oneR d [] true) (g.ks.getD i Fm.z)) = (0 : Int))) = true := decide_eq_true (hz.2 _ (getD_mem (by omega)))
          refine at_B [2, 12, 13, 14, 21] [.std, .std, .retH (.b true) (b44_29 f d)] [CallOK Tryd.prog 76 [agF (g.ks.getD i Fm.z), .ptr [0, 21] 0, .ptr [1, 21] 0] (b44_14 g i f d) [7, 10, 6, 21] (fun v1 H1 => v1 = (.b true) ∧ H1 = (b44_29 f d))] [(1000000, .any), (2, .ptr [1, 21] 0), (12, .tv (.sli 5 (g.ks.map encF))), (13, .i (((g.ks.map encF).length : Nat) : Int)), (14, .i ((i : Nat) : Int)), (21, .b false)] (b44_29 f d) 9 (by kernel_rfl) ?_ ?_
          ·refine ⟨?_, trivial⟩
           ·exact call_mv [([1, 21], [1, 21]), ([0, 21], [0, 21]), ([20], [20]), ([19], [19]), ([0, 18], [0, 18]), ([3], [3]), ([2], [2]), ([1], [1]), ([0], [0])] [([1, 21], [1, 21]), ([0, 21], [0, 21]), ([20], [20]), ([19], [19]), ([0, 18], [0, 18]), ([3], [3]), ([2], [2]), ([1], [1]), ([0], [0])] [] [] ((ih (g.ks.getD i Fm.z) (getD_mem (by omega))).1 hkid) (by kernel_rfl) (by kernel_rfl) trivial (by kernel_rfl) (by kernel_rfl) trivial (by kernel_rfl)
          refine at_cond (b := false) rfl rfl (fun h => ?_) (fun h => ?_)
          ·cases h
          clear h
          refine at_skip ?_
          change AT _ _ _ _
          refine at_Bl [2, 12, 13, 14] [.eq (.i ((i + 1 : Nat) : Int))] [(.i (wr (((i : Nat) : Int) + 1)) : AV) = .i ((i + 1 : Nat) : Int)] [(1000000, .any), (2, .ptr [1, 21] 0), (12, .tv (.sli 5 (g.ks.map encF))), (13, .i (((g.ks.map encF).length : Nat) : Int)), (14, .i ((i + 1 : Nat) : Int))] (b44_29 f d) 11 (by kernel_rfl) ?_ ?_
          ·exact ⟨succ_av i (by (try simp only [lns] at *); omega), trivial⟩
          refine ⟨rfl, (i + 1), ?_, ?_, ?_⟩
          ·(try dsimp only); omega
          ·omega
          ·exact rn_ok [([1, 21], [1, 21]), ([0, 21], [0, 21]), ([20], [20]), ([19], [19]), ([0, 18], [0, 18]), ([3], [3]), ([2], [2]), ([1], [1]), ([0], [0])] [] [2, 12, 13, 14] (trivial) (by kernel_rfl)
         ·have q15_35 := hc15_35
          (try simp only [brs] at q15_35)
          refine at_exit ?_
          change AT _ _ _ _
          refine at_B [4] [] [] [(1000000, .any), (4, .b true)] (b44_29 f d) 12 (by kernel_rfl) ?_ ?_
          ·exact trivial
          refine at_ret ?_
          exact fin_in (.inr rfl) [[1, 21], [0, 21], [20], [19], [0, 18], [3], [2], [1], [0]] (.b true) (b44_29 f d) (by kernel_rfl) rfl (by kernel_rfl)
       ·skip
        refine call_in (fn := Tryd.f76) [.tmp 4] Tryd.func76 rfl (by kernel_rfl) rfl ?_
        change AT _ _ _ ⟨[(0, agF g), (1, .ptr [0, 21] 0), (2, .ptr [1, 21] 0)], (b44_29 f d), [6, 21], 0⟩
        refine at_B [1, 2, 3] [] [] [(1000000, .any), (1, .ptr [0, 21] 0), (2, .ptr [1, 21] 0), (3, .ptr [0, 6, 21] 0)] (b44_12 g f d) 2 (by kernel_rfl) ?_ ?_
        ·exact trivial
        refine at_seq ?_
        cases hs_371 : ((!(formedR g)))
        ·have qhs_371 := hs_371
         (try simp only [brs] at qhs_371)
         cases hs_372 : (((decide (g.op = (3 : Int))) && ((decide (g.n < (0 : Int))) || (decide ((1000000 : Int) < g.n)))))
         ·have qhs_372 := hs_372
          (try simp only [brs] at qhs_372)
          cases hs_373 : ((bif ((decide (g.op = (3 : Int))) && (decide ((idxF (fcN g.nm) d.fs 0) < (0 : Int)))) then ((decide (g.op = (3 : Int))) && (decide ((idxF (fcN g.nm) d.fs 0) < (0 : Int)))) else ((decide (g.op = (4 : Int))) && false)))
          ·have qhs_373 := hs_373
           (try simp only [brs] at qhs_373)
           refine at_B [2, 3, 10] [.std, .std, .retY (.b true) (b44_12 g f d)] [YldOK Tryd.prog [20] [agF g] (b44_12 g f d) [4, 6, 21] (fun v1 H1 => v1 = (.b true) ∧ H1 = (b44_12 g f d))] [(1000000, .any), (2, .ptr [1, 21] 0), (3, .ptr [0, 6, 21] 0), (10, .b false)] (b44_12 g f d) 6 (by kernel_rfl) ?_ ?_
           ·refine ⟨?_, trivial⟩
            ·refine yld_in [(1000000, .any), (4, .ptr [1] 0), (5, .ptr [2] 0), (6, .ptr [3] 0), (22, .fn (.func 75) [.ptr [0, 18] 0])] 63 [23] (fcode Tryd.f44 [1, 1, 0, 1, 1, 0]) (fcode Tryd.f44 [1, 1, 0, 1, 1, 1]) none (by kernel_rfl) (by kernel_rfl) (fun lp => ?_)
             change AT _ (fcode Tryd.f44 [1, 1, 0, 1, 1, 0]) _ ⟨[(1000000, .any), (23, agF g), (1000000, .any), (4, .ptr [1] 0), (5, .ptr [2] 0), (6, .ptr [3] 0), (22, .fn (.func 75) [.ptr [0, 18] 0])], (b44_12 g f d), [4, 6, 21], 0⟩
             refine at_Bl [4, 5, 6, 9] [] [] [(1000000, .any), (4, .ptr [1] 0), (5, .ptr [2] 0), (6, .ptr [3] 0), (9, .ptr [0, 4, 6, 21] 0)] (b44_13 g f d) 2 (by kernel_rfl) ?_ ?_
             ·exact trivial
             refine asg_end [(1000000, .any), (4, .ptr [1] 0), (5, .ptr [2] 0), (6, .ptr [3] 0), (22, .fn (.func 75) [.ptr [0, 18] 0])] 63 [23] (fcode Tryd.f44 [1, 1, 0, 1, 1, 0]) none (by kernel_rfl) (H1 := (b44_11 g f d)) (by kernel_rfl) ?_
             refine at_block ?_
             refine at_block ?_
             refine at_B [4, 5, 6, 9, 24] [.std, .ret (.b (formedR g))] [PureCall Tryd.prog 71 [agF g] (.b (formedR g))] [(1000000, .any), (4, .ptr [1] 0), (5, .ptr [2] 0), (6, .ptr [3] 0), (9, .ptr [0, 4, 6, 21] 0), (24, .b (!(formedR g)))] (b44_11 g f d) 6 (by kernel_rfl) ?_ ?_
             ·exact ⟨(c71 g), trivial⟩
             refine at_cond (b := (!(formedR g))) rfl rfl (fun h => ?_) (fun h => ?_)
             ·exact absurd (h.symm.trans hs_371) (by decide)
             clear h
             refine at_B [4, 5, 6, 9, 28] [] [] [(1000000, .any), (4, .ptr [1] 0), (5, .ptr [2] 0), (6, .ptr [3] 0), (9, .ptr [0, 4, 6, 21] 0), (28, .b ((decide (g.op = (3 : Int))) && ((decide (g.n < (0 : Int))) || (decide ((1000000 : Int) < g.n)))))] (b44_11 g f d) 20 (by kernel_rfl) ?_ ?_
             ·exact trivial
             refine at_cond (b := ((decide (g.op = (3 : Int))) && ((decide (g.n < (0 : Int))) || (decide ((1000000 : Int) < g.n))))) rfl rfl (fun h => ?_) (fun h => ?_)
             ·exact absurd (h.symm.trans hs_372) (by decide)
             clear h
             refine at_seq ?_
             refine at_B [5, 6, 9, 42] [.std, .std, .std, .std, .std, .std, .std, .ret (.i (idxF (fcN g.nm) d.fs 0))] [((decide (g.op = (3 : Int))) = true) → PureCall Tryd.prog 57 [agD d, .tv (.str g.nm)] (.i (idxF (fcN g.nm) d.fs 0))] [(1000000, .any), (5, .ptr [2] 0), (6, .ptr [3] 0), (9, .ptr [0, 4, 6, 21] 0), (42, .b ((decide (g.op = (3 : Int))) && (decide ((idxF (fcN g.nm) d.fs 0) < (0 : Int)))))] (b44_11 g f d) 31 (by kernel_rfl) ?_ ?_
             ·exact ⟨fun hg0 => (c57 d g.nm), trivial⟩
             refine at_mergel (p := [4, 6, 21]) [(1000000, .any), (6, .ptr [3] 0), (42, .b (bif ((decide (g.op = (3 : Int))) && (decide ((idxF (fcN g.nm) d.fs 0) < (0 : Int)))) then ((decide (g.op = (3 : Int))) && (decide ((idxF (fcN g.nm) d.fs 0) < (0 : Int)))) else ((decide (g.op = (4 : Int))) && false)))] [([0, 4, 6, 21], .row ((celF g).map .tv) false), ([0, 6, 21], .row ((celF g).map .tv) false), ([1, 21], .row [.fn (.func 76) [.ptr [0, 21] 0, .ptr [1, 21] 0]] false), ([0, 21], .row [.yl [20]] false), ([20], .loop [(1000000, .any), (4, .ptr [1] 0), (5, .ptr [2] 0), (6, .ptr [3] 0), (22, .fn (.func 75) [.ptr [0, 18] 0])] 63 [23] (fcode Tryd.f44 [1, 1, 0, 1, 1, 0]) (fcode Tryd.f44 [1, 1, 0, 1, 1, 1]) .busy none), ([19], .dfr), ([0, 18], .row ((celF f).map .tv) false), ([3], .row [.i 0] false), ([2], .row [.tv (.fn 54)] false), ([1], .row ((celD d).map .tv) false), ([0], .row ((celF f).map .tv) false)] 42 ?_ ?_
             ·refine at_cond (b := ((decide (g.op = (3 : Int))) && (decide ((idxF (fcN g.nm) d.fs 0) < (0 : Int))))) rfl rfl (fun hc42_41 => ?_) (fun hc42_41 => ?_)
              ·skip
               refine at_skip ?_
               exact gh_merge [6, 42] [[0, 4, 6, 21], [0, 6, 21], [1, 21], [0, 21], [20], [19], [0, 18], [3], [2], [1], [0]] (Eq.trans (b := [(1000000, .any), (6, .ptr [3] 0), (42, .b ((decide (g.op = (3 : Int))) && (decide ((idxF (fcN g.nm) d.fs 0) < (0 : Int)))))]) (by kernel_rfl) (by simp only [hc42_41, cond_true, cond_false]; try rfl)) (by kernel_rfl) (by kernel_rfl)
              ·skip
               refine at_Bl [6, 42] [.std, .std, .std, .std, .std, .std, .std, .ret (.b true)] [((decide (g.op = (4 : Int))) = true) → PureCall Tryd.prog 54 [.tv (.str g.nm)] (.b true)] [(1000000, .any), (6, .ptr [3] 0), (42, .b ((decide (g.op = (4 : Int))) && false))] (b44_11 g f d) 42 (by kernel_rfl) ?_ ?_
               ·exact ⟨fun hg0 => (c54 g.nm), trivial⟩
               exact gh_merge [6, 42] [[0, 4, 6, 21], [0, 6, 21], [1, 21], [0, 21], [20], [19], [0, 18], [3], [2], [1], [0]] (Eq.trans (b := [(1000000, .any), (6, .ptr [3] 0), (42, .b ((decide (g.op = (4 : Int))) && false))]) (by kernel_rfl) (by simp only [hc42_41, cond_true, cond_false]; try rfl)) (by kernel_rfl) (by kernel_rfl)
             change AT _ _ _ _
             refine at_cond (b := (bif ((decide (g.op = (3 : Int))) && (decide ((idxF (fcN g.nm) d.fs 0) < (0 : Int)))) then ((decide (g.op = (3 : Int))) && (decide ((idxF (fcN g.nm) d.fs 0) < (0 : Int)))) else ((decide (g.op = (4 : Int))) && false))) rfl rfl (fun h => ?_) (fun h => ?_)
             ·exact absurd (h.symm.trans hs_373) (by decide)
             clear h
             refine at_skip ?_
             exact round_end (q := [4, 6, 21]) [[0, 6, 21], [1, 21], [0, 21], [20], [19], [0, 18], [3], [2], [1], [0]] [(1000000, .any), (4, .ptr [1] 0), (5, .ptr [2] 0), (6, .ptr [3] 0), (22, .fn (.func 75) [.ptr [0, 18] 0])] 63 [23] (fcode Tryd.f44 [1, 1, 0, 1, 1, 0]) (fcode Tryd.f44 [1, 1, 0, 1, 1, 1]) .busy none (by kernel_rfl) rfl (by kernel_rfl)
           refine at_cond (b := false) rfl rfl (fun h => ?_) (fun h => ?_)
           ·cases h
           clear h
           refine at_skip ?_
           change AT _ _ _ _
           refine at_seq ?_
           refine at_B [2, 12, 13, 14] [] [] [(1000000, .any), (2, .ptr [1, 21] 0), (12, .tv (.sli 5 (g.ks.map encF))), (13, .i (((g.ks.map encF).length : Nat) : Int)), (14, .i 0)] (b44_12 g f d) 10 (by kernel_rfl) ?_ ?_
           ·exact trivial
           refine at_block ?_
           refine at_len 12 rfl (fun hlen => ?_)
           have hz0 := one_0 hs_371 hs_372 ((vis_n1 (l := [])).symm.trans hs_373)
           refine at_loopR (X := Nat) 0 (fun (i : Nat) => [(1000000, .any), (2, .ptr [1, 21] 0), (12, .tv (.sli 5 (g.ks.map encF))), (13, .i (((g.ks.map encF).length : Nat) : Int)), (14, .i ((i : Nat) : Int))]) (fun (i : Nat) => (b44_29 f d)) (fun (i : Nat) => i ≤ g.ks.length ∧ errFs (oneR d [] true) (g.ks.drop i) = errF (oneR d [] true) g) (fun (i : Nat) => g.ks.length - i) 0 ?_ ?_ ?_
           ·exact ⟨Nat.zero_le _, vis_start (by simpa using hv) hz0⟩
           ·exact rn_ok [([1, 21], [1, 21]), ([0, 21], [0, 21]), ([20], [20]), ([19], [19]), ([0, 18], [0, 18]), ([3], [3]), ([2], [2]), ([1], [1]), ([0], [0])] [] [2, 12, 13, 14] (trivial) (by kernel_rfl)
           ·intro i hinv
            obtain ⟨hx1, hx2⟩ := hinv
            refine at_B [2, 12, 13, 14, 15] [] [] [(1000000, .any), (2, .ptr [1, 21] 0), (12, .tv (.sli 5 (g.ks.map encF))), (13, .i (((g.ks.map encF).length : Nat) : Int)), (14, .i ((i : Nat) : Int)), (15, .b (decide (((i : Nat) : Int) < (((g.ks.map encF).length : Nat) : Int))))] (b44_29 f d) 1 (by kernel_rfl) ?_ ?_
            ·exact trivial
            refine at_seq ?_
            refine at_cond (b := (decide (((i : Nat) : Int) < (((g.ks.map encF).length : Nat) : Int)))) rfl rfl (fun hc15_37 => ?_) (fun hc15_37 => ?_)
            ·have q15_37 := hc15_37
             (try simp only [brs] at q15_37)
             refine at_skip ?_
             change AT _ _ _ _
             refine at_seq ?_
             refine at_block ?_
             refine at_B [2, 6, 12, 13, 14] [.eq (.tv (.ptr (celF (g.ks.getD i Fm.z))))] [(0 ≤ ((i : Nat) : Int) ∧ ((i : Nat) : Int) < ((((g.ks.map encF) : List (List TV)).length : Nat) : Int)), (.tv (.ptr (rowAt (g.ks.map encF) ((i : Nat) : Int))) : AV) = .tv (.ptr (celF (g.ks.getD i Fm.z)))] [(1000000, .any), (2, .ptr [1, 21] 0), (6, .ptr [3, 10, 6, 21] 0), (12, .tv (.sli 5 (g.ks.map encF))), (13, .i (((g.ks.map encF).length : Nat) : Int)), (14, .i ((i : Nat) : Int))] (b44_14 g i f d) 5 (by kernel_rfl) ?_ ?_
             ·exact ⟨by (try simp only [lns] at *); omega, congrArg (fun c => AV.tv (.ptr c)) (row_F g.ks ((i : Nat) : Int) (by (try simp only [brs, lns] at *); omega)), trivial⟩
             cases hs_374 : ((decide ((errF (oneR d [] true) (g.ks.getD i Fm.z)) = (0 : Int))))
             ·have qhs_374 := hs_374
              (try simp only [brs] at qhs_374)
              refine at_B [2, 12, 13, 14, 21] [.std, .std, .retH (.b false) (b44_30 f d g i)] [CallOK Tryd.prog 76 [agF (g.ks.getD i Fm.z), .ptr [0, 21] 0, .ptr [1, 21] 0] (b44_14 g i f d) [7, 10, 6, 21] (fun v1 H1 => v1 = (.b false) ∧ H1 = (b44_30 f d g i))] [(1000000, .any), (2, .ptr [1, 21] 0), (12, .tv (.sli 5 (g.ks.map encF))), (13, .i (((g.ks.map encF).length : Nat) : Int)), (14, .i ((i : Nat) : Int)), (21, .b true)] (b44_30 f d g i) 9 (by kernel_rfl) ?_ ?_
              ·refine ⟨?_, trivial⟩
               ·exact call_mv [([1, 21], [1, 21]), ([0, 21], [0, 21]), ([20], [20]), ([19], [19]), ([0, 18], [0, 18]), ([3], [3]), ([2], [2]), ([1], [1]), ([0], [0])] [([1, 21], [1, 21]), ([0, 21], [0, 21]), ([20], [20]), ([19], [19]), ([0, 18], [0, 18]), ([3], [3]), ([2], [2]), ([1], [1]), ([0], [0])] [] [] ((ih (g.ks.getD i Fm.z) (getD_mem (by omega))).2 hs_374) (by kernel_rfl) (by kernel_rfl) trivial (by kernel_rfl) (by kernel_rfl) trivial (by kernel_rfl)
              refine at_cond (b := true) rfl rfl (fun h => ?_) (fun h => ?_)
              rotate_left
              ·cases h
              clear h
              refine at_B [4] [] [] [(1000000, .any), (4, .b false)] (b44_30 f d g i) 10 (by kernel_rfl) ?_ ?_
              ·exact trivial
              refine at_ret ?_
              exact fin_in (.inr rfl) [[1, 21], [0, 21], [20], [19], [0, 18], [3], [2], [1], [0]] (.b false) [([1, 21], .row [.fn (.func 76) [.ptr [0, 21] 0, .ptr [1, 21] 0]] false), ([0, 21], .row [.yl [20]] false), ([20], .loop [(1000000, .any), (4, .ptr [1] 0), (5, .ptr [2] 0), (6, .ptr [3] 0), (22, .fn (.func 75) [.ptr [0, 18] 0])] 63 [23] (fcode Tryd.f44 [1, 1, 0, 1, 1, 0]) (fcode Tryd.f44 [1, 1, 0, 1, 1, 1]) .done (some .ret)), ([19], .dfr), ([0, 18], .row ((celF f).map .tv) false), ([3], .row [.i (errF (oneR d [] true) (g.ks.getD i Fm.z))] false), ([2], .row [.tv (.fn 54)] false), ([1], .row ((celD d).map .tv) false), ([0], .row ((celF f).map .tv) false)] (by kernel_rfl) rfl (by show keepH _ _ = [([1, 21], .row [.fn (.func 76) [.ptr [0, 21] 0, .ptr [1, 21] 0]] false), ([0, 21], .row [.yl [20]] false), ([20], .loop [(1000000, .any), (4, .ptr [1] 0), (5, .ptr [2] 0), (6, .ptr [3] 0), (22, .fn (.func 75) [.ptr [0, 18] 0])] 63 [23] (fcode Tryd.f44 [1, 1, 0, 1, 1, 0]) (fcode Tryd.f44 [1, 1, 0, 1, 1, 1]) .done (some .ret)), ([19], .dfr), ([0, 18], .row ((celF f).map .tv) false), ([3], .row [.i (errF (oneR d [] true) g)] false), ([2], .row [.tv (.fn 54)] false), ([1], .row ((celD d).map .tv) false), ([0], .row ((celF f).map .tv) false)]; rw [show errF (oneR d [] true) g = _ from (err_stop (i := i) (by omega) hx2 (of_decide_eq_false hs_374))]; kernel_rfl)
             ·have qhs_374 := hs_374
              (try simp only [brs] at qhs_374)
              refine at_B [2, 12, 13, 14, 21] [.std, .std, .retH (.b true) (b44_29 f d)] [CallOK Tryd.prog 76 [agF (g.ks.getD i Fm.z), .ptr [0, 21] 0, .ptr [1, 21] 0] (b44_14 g i f d) [7, 10, 6, 21] (fun v1 H1 => v1 = (.b true) ∧ H1 = (b44_29 f d))] [(1000000, .any), (2, .ptr [1, 21] 0), (12, .tv (.sli 5 (g.ks.map encF))), (13, .i (((g.ks.map encF).length : Nat) : Int)), (14, .i ((i : Nat) : Int)), (21, .b false)] (b44_29 f d) 9 (by kernel_rfl) ?_ ?_
              ·refine ⟨?_, trivial⟩
               ·exact call_mv [([1, 21], [1, 21]), ([0, 21], [0, 21]), ([20], [20]), ([19], [19]), ([0, 18], [0, 18]), ([3], [3]), ([2], [2]), ([1], [1]), ([0], [0])] [([1, 21], [1, 21]), ([0, 21], [0, 21]), ([20], [20]), ([19], [19]), ([0, 18], [0, 18]), ([3], [3]), ([2], [2]), ([1], [1]), ([0], [0])] [] [] ((ih (g.ks.getD i Fm.z) (getD_mem (by omega))).1 hs_374) (by kernel_rfl) (by kernel_rfl) trivial (by kernel_rfl) (by kernel_rfl) trivial (by kernel_rfl)
              refine at_cond (b := false) rfl rfl (fun h => ?_) (fun h => ?_)
              ·cases h
              clear h
              refine at_skip ?_
              change AT _ _ _ _
              refine at_Bl [2, 12, 13, 14] [.eq (.i ((i + 1 : Nat) : Int))] [(.i (wr (((i : Nat) : Int) + 1)) : AV) = .i ((i + 1 : Nat) : Int)] [(1000000, .any), (2, .ptr [1, 21] 0), (12, .tv (.sli 5 (g.ks.map encF))), (13, .i (((g.ks.map encF).length : Nat) : Int)), (14, .i ((i + 1 : Nat) : Int))] (b44_29 f d) 11 (by kernel_rfl) ?_ ?_
              ·exact ⟨succ_av i (by (try simp only [lns] at *); omega), trivial⟩
              refine ⟨rfl, (i + 1), ?_, ?_, ?_⟩
              ·(try dsimp only); omega
              ·exact ⟨by omega, err_step (by omega) hx2 (of_decide_eq_true hs_374)⟩
              ·exact rn_ok [([1, 21], [1, 21]), ([0, 21], [0, 21]), ([20], [20]), ([19], [19]), ([0, 18], [0, 18]), ([3], [3]), ([2], [2]), ([1], [1]), ([0], [0])] [] [2, 12, 13, 14] (trivial) (by kernel_rfl)
            ·have q15_37 := hc15_37
             (try simp only [brs] at q15_37)
             exact absurd (err_end (i := i) (by omega) hx2) (by simpa using hv)
          ·have qhs_373 := hs_373
           (try simp only [brs] at qhs_373)
           refine at_B [2, 3, 10] [.std, .std, .retY (.b false) (b44_16 g f d)] [YldOK Tryd.prog [20] [agF g] (b44_12 g f d) [4, 6, 21] (fun v1 H1 => v1 = (.b false) ∧ H1 = (b44_16 g f d))] [(1000000, .any), (2, .ptr [1, 21] 0), (3, .ptr [0, 6, 21] 0), (10, .b true)] (b44_16 g f d) 6 (by kernel_rfl) ?_ ?_
           ·refine ⟨?_, trivial⟩
            ·refine yld_in [(1000000, .any), (4, .ptr [1] 0), (5, .ptr [2] 0), (6, .ptr [3] 0), (22, .fn (.func 75) [.ptr [0, 18] 0])] 63 [23] (fcode Tryd.f44 [1, 1, 0, 1, 1, 0]) (fcode Tryd.f44 [1, 1, 0, 1, 1, 1]) none (by kernel_rfl) (by kernel_rfl) (fun lp => ?_)
             change AT _ (fcode Tryd.f44 [1, 1, 0, 1, 1, 0]) _ ⟨[(1000000, .any), (23, agF g), (1000000, .any), (4, .ptr [1] 0), (5, .ptr [2] 0), (6, .ptr [3] 0), (22, .fn (.func 75) [.ptr [0, 18] 0])], (b44_12 g f d), [4, 6, 21], 0⟩
             refine at_Bl [4, 5, 6, 9] [] [] [(1000000, .any), (4, .ptr [1] 0), (5, .ptr [2] 0), (6, .ptr [3] 0), (9, .ptr [0, 4, 6, 21] 0)] (b44_13 g f d) 2 (by kernel_rfl) ?_ ?_
             ·exact trivial
             refine asg_end [(1000000, .any), (4, .ptr [1] 0), (5, .ptr [2] 0), (6, .ptr [3] 0), (22, .fn (.func 75) [.ptr [0, 18] 0])] 63 [23] (fcode Tryd.f44 [1, 1, 0, 1, 1, 0]) none (by kernel_rfl) (H1 := (b44_11 g f d)) (by kernel_rfl) ?_
             refine at_block ?_
             refine at_block ?_
             refine at_B [4, 5, 6, 9, 24] [.std, .ret (.b (formedR g))] [PureCall Tryd.prog 71 [agF g] (.b (formedR g))] [(1000000, .any), (4, .ptr [1] 0), (5, .ptr [2] 0), (6, .ptr [3] 0), (9, .ptr [0, 4, 6, 21] 0), (24, .b (!(formedR g)))] (b44_11 g f d) 6 (by kernel_rfl) ?_ ?_
             ·exact ⟨(c71 g), trivial⟩
             refine at_cond (b := (!(formedR g))) rfl rfl (fun h => ?_) (fun h => ?_)
             ·exact absurd (h.symm.trans hs_371) (by decide)
             clear h
             refine at_B [4, 5, 6, 9, 28] [] [] [(1000000, .any), (4, .ptr [1] 0), (5, .ptr [2] 0), (6, .ptr [3] 0), (9, .ptr [0, 4, 6, 21] 0), (28, .b ((decide (g.op = (3 : Int))) && ((decide (g.n < (0 : Int))) || (decide ((1000000 : Int) < g.n)))))] (b44_11 g f d) 20 (by kernel_rfl) ?_ ?_
             ·exact trivial
             refine at_cond (b := ((decide (g.op = (3 : Int))) && ((decide (g.n < (0 : Int))) || (decide ((1000000 : Int) < g.n))))) rfl rfl (fun h => ?_) (fun h => ?_)
             ·exact absurd (h.symm.trans hs_372) (by decide)
             clear h
             refine at_seq ?_
             refine at_B [5, 6, 9, 42] [.std, .std, .std, .std, .std, .std, .std, .ret (.i (idxF (fcN g.nm) d.fs 0))] [((decide (g.op = (3 : Int))) = true) → PureCall Tryd.prog 57 [agD d, .tv (.str g.nm)] (.i (idxF (fcN g.nm) d.fs 0))] [(1000000, .any), (5, .ptr [2] 0), (6, .ptr [3] 0), (9, .ptr [0, 4, 6, 21] 0), (42, .b ((decide (g.op = (3 : Int))) && (decide ((idxF (fcN g.nm) d.fs 0) < (0 : Int)))))] (b44_11 g f d) 31 (by kernel_rfl) ?_ ?_
             ·exact ⟨fun hg0 => (c57 d g.nm), trivial⟩
             refine at_mergel (p := [4, 6, 21]) [(1000000, .any), (6, .ptr [3] 0), (42, .b (bif ((decide (g.op = (3 : Int))) && (decide ((idxF (fcN g.nm) d.fs 0) < (0 : Int)))) then ((decide (g.op = (3 : Int))) && (decide ((idxF (fcN g.nm) d.fs 0) < (0 : Int)))) else ((decide (g.op = (4 : Int))) && false)))] [([0, 4, 6, 21], .row ((celF g).map .tv) false), ([0, 6, 21], .row ((celF g).map .tv) false), ([1, 21], .row [.fn (.func 76) [.ptr [0, 21] 0, .ptr [1, 21] 0]] false), ([0, 21], .row [.yl [20]] false), ([20], .loop [(1000000, .any), (4, .ptr [1] 0), (5, .ptr [2] 0), (6, .ptr [3] 0), (22, .fn (.func 75) [.ptr [0, 18] 0])] 63 [23] (fcode Tryd.f44 [1, 1, 0, 1, 1, 0]) (fcode Tryd.f44 [1, 1, 0, 1, 1, 1]) .busy none), ([19], .dfr), ([0, 18], .row ((celF f).map .tv) false), ([3], .row [.i 0] false), ([2], .row [.tv (.fn 54)] false), ([1], .row ((celD d).map .tv) false), ([0], .row ((celF f).map .tv) false)] 42 ?_ ?_
             ·refine at_cond (b := ((decide (g.op = (3 : Int))) && (decide ((idxF (fcN g.nm) d.fs 0) < (0 : Int))))) rfl rfl (fun hc42_42 => ?_) (fun hc42_42 => ?_)
              ·skip
               refine at_skip ?_
               exact gh_merge [6, 42] [[0, 4, 6, 21], [0, 6, 21], [1, 21], [0, 21], [20], [19], [0, 18], [3], [2], [1], [0]] (Eq.trans (b := [(1000000, .any), (6, .ptr [3] 0), (42, .b ((decide (g.op = (3 : Int))) && (decide ((idxF (fcN g.nm) d.fs 0) < (0 : Int)))))]) (by kernel_rfl) (by simp only [hc42_42, cond_true, cond_false]; try rfl)) (by kernel_rfl) (by kernel_rfl)
              ·skip
               refine at_Bl [6, 42] [.std, .std, .std, .std, .std, .std, .std, .ret (.b true)] [((decide (g.op = (4 : Int))) = true) → PureCall Tryd.prog 54 [.tv (.str g.nm)] (.b true)] [(1000000, .any), (6, .ptr [3] 0), (42, .b ((decide (g.op = (4 : Int))) && false))] (b44_11 g f d) 42 (by kernel_rfl) ?_ ?_
               ·exact ⟨fun hg0 => (c54 g.nm), trivial⟩
               exact gh_merge [6, 42] [[0, 4, 6, 21], [0, 6, 21], [1, 21], [0, 21], [20], [19], [0, 18], [3], [2], [1], [0]] (Eq.trans (b := [(1000000, .any), (6, .ptr [3] 0), (42, .b ((decide (g.op = (4 : Int))) && false))]) (by kernel_rfl) (by simp only [hc42_42, cond_true, cond_false]; try rfl)) (by kernel_rfl) (by kernel_rfl)
             change AT _ _ _ _
             refine at_cond (b := (bif ((decide (g.op = (3 : Int))) && (decide ((idxF (fcN g.nm) d.fs 0) < (0 : Int)))) then ((decide (g.op = (3 : Int))) && (decide ((idxF (fcN g.nm) d.fs 0) < (0 : Int)))) else ((decide (g.op = (4 : Int))) && false))) rfl rfl (fun h => ?_) (fun h => ?_)
             rotate_left
             ·exact absurd (h.symm.trans hs_373) (by decide)
             clear h
             refine at_B [6] [] [] [(1000000, .any), (6, .ptr [3] 0)] (b44_22 g f d) 43 (by kernel_rfl) ?_ ?_
             ·exact trivial
             refine at_ret ?_
             exact round_ret (q := [4, 6, 21]) [[0, 6, 21], [1, 21], [0, 21], [20], [19], [0, 18], [3], [2], [1], [0]] [(1000000, .any), (4, .ptr [1] 0), (5, .ptr [2] 0), (6, .ptr [3] 0), (22, .fn (.func 75) [.ptr [0, 18] 0])] 63 [23] (fcode Tryd.f44 [1, 1, 0, 1, 1, 0]) (fcode Tryd.f44 [1, 1, 0, 1, 1, 1]) .busy none (by kernel_rfl) rfl (by kernel_rfl)
           refine at_cond (b := true) rfl rfl (fun h => ?_) (fun h => ?_)
           rotate_left
           ·cases h
           clear h
           refine at_B [4] [] [] [(1000000, .any), (4, .b false)] (b44_16 g f d) 7 (by kernel_rfl) ?_ ?_
           ·exact trivial
           refine at_ret ?_
           exact fin_in (.inr rfl) [[1, 21], [0, 21], [20], [19], [0, 18], [3], [2], [1], [0]] (.b false) [([0, 6, 21], .row ((celF g).map .tv) false), ([1, 21], .row [.fn (.func 76) [.ptr [0, 21] 0, .ptr [1, 21] 0]] false), ([0, 21], .row [.yl [20]] false), ([20], .loop [(1000000, .any), (4, .ptr [1] 0), (5, .ptr [2] 0), (6, .ptr [3] 0), (22, .fn (.func 75) [.ptr [0, 18] 0])] 63 [23] (fcode Tryd.f44 [1, 1, 0, 1, 1, 0]) (fcode Tryd.f44 [1, 1, 0, 1, 1, 1]) .done (some .ret)), ([19], .dfr), ([0, 18], .row ((celF f).map .tv) false), ([3], .row [.i 7] false), ([2], .row [.tv (.fn 54)] false), ([1], .row ((celD d).map .tv) false), ([0], .row ((celF f).map .tv) false)] (by kernel_rfl) rfl (by show keepH _ _ = [([1, 21], .row [.fn (.func 76) [.ptr [0, 21] 0, .ptr [1, 21] 0]] false), ([0, 21], .row [.yl [20]] false), ([20], .loop [(1000000, .any), (4, .ptr [1] 0), (5, .ptr [2] 0), (6, .ptr [3] 0), (22, .fn (.func 75) [.ptr [0, 18] 0])] 63 [23] (fcode Tryd.f44 [1, 1, 0, 1, 1, 0]) (fcode Tryd.f44 [1, 1, 0, 1, 1, 1]) .done (some .ret)), ([19], .dfr), ([0, 18], .row ((celF f).map .tv) false), ([3], .row [.i (errF (oneR d [] true) g)] false), ([2], .row [.tv (.fn 54)] false), ([1], .row ((celD d).map .tv) false), ([0], .row ((celF f).map .tv) false)]; rw [show errF (oneR d [] true) g = _ from (err_at (one_7 hs_371 hs_372 ((vis_n1 (l := [])).symm.trans hs_373)) (by decide))]; kernel_rfl)
         ·have qhs_372 := hs_372
          (try simp only [brs] at qhs_372)
          refine at_B [2, 3, 10] [.std, .std, .retY (.b false) (b44_15 g f d)] [YldOK Tryd.prog [20] [agF g] (b44_12 g f d) [4, 6, 21] (fun v1 H1 => v1 = (.b false) ∧ H1 = (b44_15 g f d))] [(1000000, .any), (2, .ptr [1, 21] 0), (3, .ptr [0, 6, 21] 0), (10, .b true)] (b44_15 g f d) 6 (by kernel_rfl) ?_ ?_
          ·refine ⟨?_, trivial⟩
           ·refine yld_in [(1000000, .any), (4, .ptr [1] 0), (5, .ptr [2] 0), (6, .ptr [3] 0), (22, .fn (.func 75) [.ptr [0, 18] 0])] 63 [23] (fcode Tryd.f44 [1, 1, 0, 1, 1, 0]) (fcode Tryd.f44 [1, 1, 0, 1, 1, 1]) none (by kernel_rfl) (by kernel_rfl) (fun lp => ?_)
            change AT _ (fcode Tryd.f44 [1, 1, 0, 1, 1, 0]) _ ⟨[(1000000, .any), (23, agF g), (1000000, .any), (4, .ptr [1] 0), (5, .ptr [2] 0), (6, .ptr [3] 0), (22, .fn (.func 75) [.ptr [0, 18] 0])], (b44_12 g f d), [4, 6, 21], 0⟩
            refine at_Bl [4, 5, 6, 9] [] [] [(1000000, .any), (4, .ptr [1] 0), (5, .ptr [2] 0), (6, .ptr [3] 0), (9, .ptr [0, 4, 6, 21] 0)] (b44_13 g f d) 2 (by kernel_rfl) ?_ ?_
            ·exact trivial
            refine asg_end [(1000000, .any), (4, .ptr [1] 0), (5, .ptr [2] 0), (6, .ptr [3] 0), (22, .fn (.func 75) [.ptr [0, 18] 0])] 63 [23] (fcode Tryd.f44 [1, 1, 0, 1, 1, 0]) none (by kernel_rfl) (H1 := (b44_11 g f d)) (by kernel_rfl) ?_
            refine at_block ?_
            refine at_block ?_
            refine at_B [4, 5, 6, 9, 24] [.std, .ret (.b (formedR g))] [PureCall Tryd.prog 71 [agF g] (.b (formedR g))] [(1000000, .any), (4, .ptr [1] 0), (5, .ptr [2] 0), (6, .ptr [3] 0), (9, .ptr [0, 4, 6, 21] 0), (24, .b (!(formedR g)))] (b44_11 g f d) 6 (by kernel_rfl) ?_ ?_
            ·exact ⟨(c71 g), trivial⟩
            refine at_cond (b := (!(formedR g))) rfl rfl (fun h => ?_) (fun h => ?_)
            ·exact absurd (h.symm.trans hs_371) (by decide)
            clear h
            refine at_B [4, 5, 6, 9, 28] [] [] [(1000000, .any), (4, .ptr [1] 0), (5, .ptr [2] 0), (6, .ptr [3] 0), (9, .ptr [0, 4, 6, 21] 0), (28, .b ((decide (g.op = (3 : Int))) && ((decide (g.n < (0 : Int))) || (decide ((1000000 : Int) < g.n)))))] (b44_11 g f d) 20 (by kernel_rfl) ?_ ?_
            ·exact trivial
            refine at_cond (b := ((decide (g.op = (3 : Int))) && ((decide (g.n < (0 : Int))) || (decide ((1000000 : Int) < g.n))))) rfl rfl (fun h => ?_) (fun h => ?_)
            rotate_left
            ·exact absurd (h.symm.trans hs_372) (by decide)
            clear h
            refine at_B [6] [] [] [(1000000, .any), (6, .ptr [3] 0)] (b44_21 g f d) 21 (by kernel_rfl) ?_ ?_
            ·exact trivial
            refine at_ret ?_
            exact round_ret (q := [4, 6, 21]) [[0, 6, 21], [1, 21], [0, 21], [20], [19], [0, 18], [3], [2], [1], [0]] [(1000000, .any), (4, .ptr [1] 0), (5, .ptr [2] 0), (6, .ptr [3] 0), (22, .fn (.func 75) [.ptr [0, 18] 0])] 63 [23] (fcode Tryd.f44 [1, 1, 0, 1, 1, 0]) (fcode Tryd.f44 [1, 1, 0, 1, 1, 1]) .busy none (by kernel_rfl) rfl (by kernel_rfl)
          refine at_cond (b := true) rfl rfl (fun h => ?_) (fun h => ?_)
          rotate_left
          ·cases h
          clear h
          refine at_B [4] [] [] [(1000000, .any), (4, .b false)] (b44_15 g f d) 7 (by kernel_rfl) ?_ ?_
          ·exact trivial
          refine at_ret ?_
          exact fin_in (.inr rfl) [[1, 21], [0, 21], [20], [19], [0, 18], [3], [2], [1], [0]] (.b false) [([0, 6, 21], .row ((celF g).map .tv) false), ([1, 21], .row [.fn (.func 76) [.ptr [0, 21] 0, .ptr [1, 21] 0]] false), ([0, 21], .row [.yl [20]] false), ([20], .loop [(1000000, .any), (4, .ptr [1] 0), (5, .ptr [2] 0), (6, .ptr [3] 0), (22, .fn (.func 75) [.ptr [0, 18] 0])] 63 [23] (fcode Tryd.f44 [1, 1, 0, 1, 1, 0]) (fcode Tryd.f44 [1, 1, 0, 1, 1, 1]) .done (some .ret)), ([19], .dfr), ([0, 18], .row ((celF f).map .tv) false), ([3], .row [.i 10] false), ([2], .row [.tv (.fn 54)] false), ([1], .row ((celD d).map .tv) false), ([0], .row ((celF f).map .tv) false)] (by kernel_rfl) rfl (by show keepH _ _ = [([1, 21], .row [.fn (.func 76) [.ptr [0, 21] 0, .ptr [1, 21] 0]] false), ([0, 21], .row [.yl [20]] false), ([20], .loop [(1000000, .any), (4, .ptr [1] 0), (5, .ptr [2] 0), (6, .ptr [3] 0), (22, .fn (.func 75) [.ptr [0, 18] 0])] 63 [23] (fcode Tryd.f44 [1, 1, 0, 1, 1, 0]) (fcode Tryd.f44 [1, 1, 0, 1, 1, 1]) .done (some .ret)), ([19], .dfr), ([0, 18], .row ((celF f).map .tv) false), ([3], .row [.i (errF (oneR d [] true) g)] false), ([2], .row [.tv (.fn 54)] false), ([1], .row ((celD d).map .tv) false), ([0], .row ((celF f).map .tv) false)]; rw [show errF (oneR d [] true) g = _ from (err_at (one_10 hs_371 hs_372) (by decide))]; kernel_rfl)
        ·have qhs_371 := hs_371
         (try simp only [brs] at qhs_371)
         refine at_B [2, 3, 10] [.std, .std, .retY (.b false) (b44_17 g f d)] [YldOK Tryd.prog [20] [agF g] (b44_12 g f d) [4, 6, 21] (fun v1 H1 => v1 = (.b false) ∧ H1 = (b44_17 g f d))] [(1000000, .any), (2, .ptr [1, 21] 0), (3, .ptr [0, 6, 21] 0), (10, .b true)] (b44_17 g f d) 6 (by kernel_rfl) ?_ ?_
         ·refine ⟨?_, trivial⟩
          ·refine yld_in [(1000000, .any), (4, .ptr [1] 0), (5, .ptr [2] 0), (6, .ptr [3] 0), (22, .fn (.func 75) [.ptr [0, 18] 0])] 63 [23] (fcode Tryd.f44 [1, 1, 0, 1, 1, 0]) (fcode Tryd.f44 [1, 1, 0, 1, 1, 1]) none (by kernel_rfl) (by kernel_rfl) (fun lp => ?_)
           change AT _ (fcode Tryd.f44 [1, 1, 0, 1, 1, 0]) _ ⟨[(1000000, .any), (23, agF g), (1000000, .any), (4, .ptr [1] 0), (5, .ptr [2] 0), (6, .ptr [3] 0), (22, .fn (.func 75) [.ptr [0, 18] 0])], (b44_12 g f d), [4, 6, 21], 0⟩
           refine at_Bl [4, 5, 6, 9] [] [] [(1000000, .any), (4, .ptr [1] 0), (5, .ptr [2] 0), (6, .ptr [3] 0), (9, .ptr [0, 4, 6, 21] 0)] (b44_13 g f d) 2 (by kernel_rfl) ?_ ?_
           ·exact trivial
           refine asg_end [(1000000, .any), (4, .ptr [1] 0), (5, .ptr [2] 0), (6, .ptr [3] 0), (22, .fn (.func 75) [.ptr [0, 18] 0])] 63 [23] (fcode Tryd.f44 [1, 1, 0, 1, 1, 0]) none (by kernel_rfl) (H1 := (b44_11 g f d)) (by kernel_rfl) ?_
           refine at_block ?_
           refine at_block ?_
           refine at_B [4, 5, 6, 9, 24] [.std, .ret (.b (formedR g))] [PureCall Tryd.prog 71 [agF g] (.b (formedR g))] [(1000000, .any), (4, .ptr [1] 0), (5, .ptr [2] 0), (6, .ptr [3] 0), (9, .ptr [0, 4, 6, 21] 0), (24, .b (!(formedR g)))] (b44_11 g f d) 6 (by kernel_rfl) ?_ ?_
           ·exact ⟨(c71 g), trivial⟩
           refine at_cond (b := (!(formedR g))) rfl rfl (fun h => ?_) (fun h => ?_)
           rotate_left
           ·exact absurd (h.symm.trans hs_371) (by decide)
           clear h
           refine at_B [6] [] [] [(1000000, .any), (6, .ptr [3] 0)] (b44_23 g f d) 7 (by kernel_rfl) ?_ ?_
           ·exact trivial
           refine at_ret ?_
           exact round_ret (q := [4, 6, 21]) [[0, 6, 21], [1, 21], [0, 21], [20], [19], [0, 18], [3], [2], [1], [0]] [(1000000, .any), (4, .ptr [1] 0), (5, .ptr [2] 0), (6, .ptr [3] 0), (22, .fn (.func 75) [.ptr [0, 18] 0])] 63 [23] (fcode Tryd.f44 [1, 1, 0, 1, 1, 0]) (fcode Tryd.f44 [1, 1, 0, 1, 1, 1]) .busy none (by kernel_rfl) rfl (by kernel_rfl)
         refine at_cond (b := true) rfl rfl (fun h => ?_) (fun h => ?_)
         rotate_left
         ·cases h
         clear h
         refine at_B [4] [] [] [(1000000, .any), (4, .b false)] (b44_17 g f d) 7 (by kernel_rfl) ?_ ?_
         ·exact trivial
         refine at_ret ?_
         exact fin_in (.inr rfl) [[1, 21], [0, 21], [20], [19], [0, 18], [3], [2], [1], [0]] (.b false) [([0, 6, 21], .row ((celF g).map .tv) false), ([1, 21], .row [.fn (.func 76) [.ptr [0, 21] 0, .ptr [1, 21] 0]] false), ([0, 21], .row [.yl [20]] false), ([20], .loop [(1000000, .any), (4, .ptr [1] 0), (5, .ptr [2] 0), (6, .ptr [3] 0), (22, .fn (.func 75) [.ptr [0, 18] 0])] 63 [23] (fcode Tryd.f44 [1, 1, 0, 1, 1, 0]) (fcode Tryd.f44 [1, 1, 0, 1, 1, 1]) .done (some .ret)), ([19], .dfr), ([0, 18], .row ((celF f).map .tv) false), ([3], .row [.i 1] false), ([2], .row [.tv (.fn 54)] false), ([1], .row ((celD d).map .tv) false), ([0], .row ((celF f).map .tv) false)] (by kernel_rfl) rfl (by show keepH _ _ = [([1, 21], .row [.fn (.func 76) [.ptr [0, 21] 0, .ptr [1, 21] 0]] false), ([0, 21], .row [.yl [20]] false), ([20], .loop [(1000000, .any), (4, .ptr [1] 0), (5, .ptr [2] 0), (6, .ptr [3] 0), (22, .fn (.func 75) [.ptr [0, 18] 0])] 63 [23] (fcode Tryd.f44 [1, 1, 0, 1, 1, 0]) (fcode Tryd.f44 [1, 1, 0, 1, 1, 1]) .done (some .ret)), ([19], .dfr), ([0, 18], .row ((celF f).map .tv) false), ([3], .row [.i (errF (oneR d [] true) g)] false), ([2], .row [.tv (.fn 54)] false), ([1], .row ((celD d).map .tv) false), ([0], .row ((celF f).map .tv) false)]; rw [show errF (oneR d [] true) g = _ from (err_at (one_1 hs_371) (by decide))]; kernel_rfl)
      exact (vis f).1 hs1
    exact fin_in (.inl rfl) [[20], [19], [0, 18], [3], [2], [1], [0]] (.tup []) (b44_29 f d) (by kernel_rfl) rfl (by kernel_rfl)
   change AT _ _ _ _
   refine at_B [6] [] [] [(1000000, .ds [.ptr [19] 0]), (6, .ptr [3] 0)] (b44_27 f d) 23 (by kernel_rfl) ?_ ?_
   ·exact trivial
   refine at_ret ?_
   refine fin0 (.inr rfl) (.i 0) (b44_26 f d) (.i 0) (H2 := (b44_26 f d)) (by kernel_rfl) (by kernel_rfl) ?_
   refine Le.of_eq ?_
   rw [checkA, largeR, hc20, of_decide_eq_true hs1]; rfl
noncomputable abbrev b45_1 (l : (List ByteArray)) : Id × AO := ([0], .row [.tv (.sli 1 (l.map encStr))] false)
theorem c45 (s : ByteArray) (l : (List ByteArray))  : StabCall Tryd.prog 45 [.tv (.str s), .ptr [0] 0] [(b45_1 l)] (.b (List.any l (eqR s))) := by
 refine stab_mv (args := [.tv (.str s), .ptr [0] 0]) (H := [(b45_1 l)]) (H2 := [(b45_1 l)]) (q := [50]) [([0], [0])] [([0], [0])] [] [] ?_ (by kernel_rfl) (by kernel_rfl) (trivial) (by kernel_rfl) (by kernel_rfl) (trivial)
 refine call_in (fn := Tryd.f45) [.tmp 3] Tryd.func45 rfl (by kernel_rfl) rfl ?_
 change AT _ _ _ ⟨[(0, .tv (.str s)), (1, .ptr [0] 0)], [(b45_1 l)], [50], 0⟩
 refine at_B [0, 1] [] [] [(1000000, .any), (0, .tv (.str s)), (1, .ptr [0] 0)] [(b45_1 l)] 1 (by kernel_rfl) ?_ ?_
 ·exact trivial
 refine at_B [3] [.std, .std, .ret (.b (List.any l (eqS s)))] [PureCall Tryd.prog 46 [.tv (.sli 1 (l.map encStr)), .tv (.str s)] (.b (List.any l (eqS s)))] [(1000000, .any), (3, .b (List.any l (eqS s)))] [(b45_1 l)] 5 (by kernel_rfl) ?_ ?_
 ·exact ⟨(c46 l s), trivial⟩
 refine at_ret ?_
 exact fin_in (.inr rfl) [[0]] (.b (List.any l (eqS s))) [(b45_1 l)] (by kernel_rfl) (by rw [anySR]) (by kernel_rfl)
noncomputable abbrev b16_1 : Id × AO := ([20, 7], .loop [(1000000, .any), (4, .ptr [1, 7] 0), (5, .ptr [2, 7] 0), (6, .ptr [3, 7] 0), (22, .fn (.func 75) [.ptr [0, 18, 7] 0])] 63 [23] (fcode Tryd.f44 [1, 1, 0, 1, 1, 0]) (fcode Tryd.f44 [1, 1, 0, 1, 1, 1]) .ready none)
noncomputable abbrev b16_2 : Id × AO := ([1, 21, 7], .row [.fn (.func 76) [.ptr [0, 21, 7] 0, .ptr [1, 21, 7] 0]] false)
noncomputable abbrev b16_3 (l : (List ByteArray)) : Id × AO := ([2], .row [.tv (.sli 1 (l.map encStr))] false)
noncomputable abbrev b16_4 : Id × AO := ([20, 7], .loop [(1000000, .any), (4, .ptr [1, 7] 0), (5, .ptr [2, 7] 0), (6, .ptr [3, 7] 0), (22, .fn (.func 75) [.ptr [0, 18, 7] 0])] 63 [23] (fcode Tryd.f44 [1, 1, 0, 1, 1, 0]) (fcode Tryd.f44 [1, 1, 0, 1, 1, 1]) .busy none)
noncomputable abbrev b16_5 : Id × AO := ([2, 7], .row [.fn (.func 45) [.ptr [2] 0]] false)
noncomputable abbrev b16_6 (f : Fm) : Id × AO := ([0, 18, 7], .row ((celF f).map .tv) false)
noncomputable abbrev b16_7 : Id × AO := ([20, 7], .loop [(1000000, .any), (4, .ptr [1, 7] 0), (5, .ptr [2, 7] 0), (6, .ptr [3, 7] 0), (22, .fn (.func 75) [.ptr [0, 18, 7] 0])] 63 [23] (fcode Tryd.f44 [1, 1, 0, 1, 1, 0]) (fcode Tryd.f44 [1, 1, 0, 1, 1, 1]) .done (some .ret))
noncomputable abbrev b16_8 : Id × AO := ([3, 7], .row [.i 0] false)
noncomputable abbrev b16_9 (g : Fm) : Id × AO := ([0, 6, 21, 7], .row ((celF g).map .tv) false)
noncomputable abbrev b16_10 (g : Fm) : Id × AO := ([0, 4, 6, 21, 7], .row ((celF g).map .tv) false)
noncomputable abbrev b16_11 (g : Fm) (i : Nat) : Id × AO := ([3, 10, 6, 21, 7], .row ((celF (g.ks.getD i Fm.z)).map .tv) false)
noncomputable abbrev b16_12 (d : Dm) (l : (List ByteArray)) (g : Fm) (i : Nat) : Id × AO := ([3, 7], .row [.i (errF (oneR d l false) (g.ks.getD i Fm.z))] false)
noncomputable abbrev b16_13 (d : Dm) (l : (List ByteArray)) (f : Fm) : Id × AO := ([3, 7], .row [.i (errF (oneR d l false) f)] false)
noncomputable abbrev b16_14 : Id × AO := ([3, 7], .row [.i 10] false)
noncomputable abbrev b16_15 : Id × AO := ([3, 7], .row [.i 7] false)
noncomputable abbrev b16_16 : Id × AO := ([3, 7], .row [.i 1] false)
noncomputable abbrev b16_17 (l : (List ByteArray)) : Id × AO := ([0], .row [.tv (.sli 1 (l.map encStr))] false)
noncomputable abbrev b16_18 (g : Fm) (f : Fm) (d : Dm) (l : (List ByteArray)) : Hp := [(b16_10 g), (b16_9 g), b16_2, ([0, 21, 7], .row [.yl [20, 7]] false), b16_4, ([19, 7], .dfr), (b16_6 f), b16_8, b16_5, ([1, 7], .row ((celD d).map .tv) false), ([0, 7], .row ((celF f).map .tv) false), (b16_3 l), ([1], .row ((celD d).map .tv) false), ([0], .row ((celF f).map .tv) false)]
noncomputable abbrev b16_19 (g : Fm) (f : Fm) (d : Dm) (l : (List ByteArray)) : Hp := [(b16_9 g), b16_2, ([0, 21, 7], .row [.yl [20, 7]] false), b16_1, ([19, 7], .dfr), (b16_6 f), b16_8, b16_5, ([1, 7], .row ((celD d).map .tv) false), ([0, 7], .row ((celF f).map .tv) false), (b16_3 l), ([1], .row ((celD d).map .tv) false), ([0], .row ((celF f).map .tv) false)]
noncomputable abbrev b16_20 (g : Fm) (f : Fm) (d : Dm) (l : (List ByteArray)) : Hp := [(b16_10 g), (b16_9 g), b16_2, ([0, 21, 7], .row [.yl [20, 7]] false), b16_1, ([19, 7], .dfr), (b16_6 f), b16_8, b16_5, ([1, 7], .row ((celD d).map .tv) false), ([0, 7], .row ((celF f).map .tv) false), (b16_3 l), ([1], .row ((celD d).map .tv) false), ([0], .row ((celF f).map .tv) false)]
noncomputable abbrev b16_21 (g : Fm) (i : Nat) (f : Fm) (d : Dm) (l : (List ByteArray)) : Hp := [(b16_11 g i), b16_2, ([0, 21, 7], .row [.yl [20, 7]] false), b16_1, ([19, 7], .dfr), (b16_6 f), b16_8, b16_5, ([1, 7], .row ((celD d).map .tv) false), ([0, 7], .row ((celF f).map .tv) false), (b16_3 l), ([1], .row ((celD d).map .tv) false), ([0], .row ((celF f).map .tv) false)]
noncomputable abbrev b16_22 (f : Fm) (d : Dm) (l : (List ByteArray)) : Hp := [(b16_6 f), b16_8, b16_5, ([1, 7], .row ((celD d).map .tv) false), ([0, 7], .row ((celF f).map .tv) false), (b16_3 l), ([1], .row ((celD d).map .tv) false), ([0], .row ((celF f).map .tv) false)]
noncomputable abbrev b16_23 (g : Fm) (f : Fm) (d : Dm) (l : (List ByteArray)) : Hp := [(b16_9 g), b16_2, ([0, 21, 7], .row [.yl [20, 7]] false), b16_7, ([19, 7], .dfr), (b16_6 f), b16_15, b16_5, ([1, 7], .row ((celD d).map .tv) false), ([0, 7], .row ((celF f).map .tv) false), (b16_3 l), ([1], .row ((celD d).map .tv) false), ([0], .row ((celF f).map .tv) false)]
noncomputable abbrev b16_24 (g : Fm) (f : Fm) (d : Dm) (l : (List ByteArray)) : Hp := [(b16_9 g), b16_2, ([0, 21, 7], .row [.yl [20, 7]] false), b16_7, ([19, 7], .dfr), (b16_6 f), b16_14, b16_5, ([1, 7], .row ((celD d).map .tv) false), ([0, 7], .row ((celF f).map .tv) false), (b16_3 l), ([1], .row ((celD d).map .tv) false), ([0], .row ((celF f).map .tv) false)]
noncomputable abbrev b16_25 (g : Fm) (f : Fm) (d : Dm) (l : (List ByteArray)) : Hp := [(b16_9 g), b16_2, ([0, 21, 7], .row [.yl [20, 7]] false), b16_7, ([19, 7], .dfr), (b16_6 f), b16_16, b16_5, ([1, 7], .row ((celD d).map .tv) false), ([0, 7], .row ((celF f).map .tv) false), (b16_3 l), ([1], .row ((celD d).map .tv) false), ([0], .row ((celF f).map .tv) false)]
noncomputable abbrev b16_26 (l : (List ByteArray)) (d : Dm) (f : Fm) : Hp := [(b16_3 l), ([1], .row ((celD d).map .tv) false), ([0], .row ((celF f).map .tv) false)]
noncomputable abbrev b16_27 (f : Fm) (d : Dm) (l : (List ByteArray)) : Hp := [([1, 21, 7], .row [.tv .nilf] false), ([0, 21, 7], .row [.yl [20, 7]] false), b16_1, ([19, 7], .dfr), (b16_6 f), b16_8, b16_5, ([1, 7], .row ((celD d).map .tv) false), ([0, 7], .row ((celF f).map .tv) false), (b16_3 l), ([1], .row ((celD d).map .tv) false), ([0], .row ((celF f).map .tv) false)]
noncomputable abbrev b16_28 (g : Fm) (f : Fm) (d : Dm) (l : (List ByteArray)) : Hp := [(b16_10 g), (b16_9 g), b16_2, ([0, 21, 7], .row [.yl [20, 7]] false), b16_4, ([19, 7], .dfr), (b16_6 f), b16_15, b16_5, ([1, 7], .row ((celD d).map .tv) false), ([0, 7], .row ((celF f).map .tv) false), (b16_3 l), ([1], .row ((celD d).map .tv) false), ([0], .row ((celF f).map .tv) false)]
noncomputable abbrev b16_29 (g : Fm) (f : Fm) (d : Dm) (l : (List ByteArray)) : Hp := [(b16_10 g), (b16_9 g), b16_2, ([0, 21, 7], .row [.yl [20, 7]] false), b16_4, ([19, 7], .dfr), (b16_6 f), b16_14, b16_5, ([1, 7], .row ((celD d).map .tv) false), ([0, 7], .row ((celF f).map .tv) false), (b16_3 l), ([1], .row ((celD d).map .tv) false), ([0], .row ((celF f).map .tv) false)]
noncomputable abbrev b16_30 (g : Fm) (f : Fm) (d : Dm) (l : (List ByteArray)) : Hp := [(b16_10 g), (b16_9 g), b16_2, ([0, 21, 7], .row [.yl [20, 7]] false), b16_4, ([19, 7], .dfr), (b16_6 f), b16_16, b16_5, ([1, 7], .row ((celD d).map .tv) false), ([0, 7], .row ((celF f).map .tv) false), (b16_3 l), ([1], .row ((celD d).map .tv) false), ([0], .row ((celF f).map .tv) false)]
noncomputable abbrev b16_31 (f : Fm) (d : Dm) (l : (List ByteArray)) : Hp := [([0, 21, 7], .row [.yl [20, 7]] false), b16_1, ([19, 7], .dfr), (b16_6 f), b16_8, b16_5, ([1, 7], .row ((celD d).map .tv) false), ([0, 7], .row ((celF f).map .tv) false), (b16_3 l), ([1], .row ((celD d).map .tv) false), ([0], .row ((celF f).map .tv) false)]
noncomputable abbrev b16_32 (d : Dm) (f : Fm) (l : (List ByteArray)) : Hp := [([3, 7], .row [.i 2] false), b16_5, ([1, 7], .row ((celD d).map .tv) false), ([0, 7], .row ((celF f).map .tv) false), (b16_3 l), ([1], .row ((celD d).map .tv) false), ([0], .row ((celF f).map .tv) false)]
noncomputable abbrev b16_33 (f : Fm) (d : Dm) (l : (List ByteArray)) : Hp := [([19, 7], .dfr), (b16_6 f), b16_8, b16_5, ([1, 7], .row ((celD d).map .tv) false), ([0, 7], .row ((celF f).map .tv) false), (b16_3 l), ([1], .row ((celD d).map .tv) false), ([0], .row ((celF f).map .tv) false)]
noncomputable abbrev b16_34 (f : Fm) (d : Dm) (l : (List ByteArray)) : Hp := [b16_2, ([0, 21, 7], .row [.yl [20, 7]] false), b16_1, ([19, 7], .dfr), (b16_6 f), b16_8, b16_5, ([1, 7], .row ((celD d).map .tv) false), ([0, 7], .row ((celF f).map .tv) false), (b16_3 l), ([1], .row ((celD d).map .tv) false), ([0], .row ((celF f).map .tv) false)]
noncomputable abbrev b16_35 (d : Dm) (f : Fm) (l : (List ByteArray)) : Hp := [b16_8, b16_5, ([1, 7], .row ((celD d).map .tv) false), ([0, 7], .row ((celF f).map .tv) false), (b16_3 l), ([1], .row ((celD d).map .tv) false), ([0], .row ((celF f).map .tv) false)]
noncomputable abbrev b16_36 (f : Fm) (d : Dm) (l : (List ByteArray)) (g : Fm) (i : Nat) : Hp := [b16_2, ([0, 21, 7], .row [.yl [20, 7]] false), b16_7, ([19, 7], .dfr), (b16_6 f), (b16_12 d l g i), b16_5, ([1, 7], .row ((celD d).map .tv) false), ([0, 7], .row ((celF f).map .tv) false), (b16_3 l), ([1], .row ((celD d).map .tv) false), ([0], .row ((celF f).map .tv) false)]
noncomputable abbrev b16_37 (f : Fm) (d : Dm) (l : (List ByteArray)) : Hp := [b16_2, ([0, 21, 7], .row [.yl [20, 7]] false), b16_7, ([19, 7], .dfr), (b16_6 f), (b16_13 d l f), b16_5, ([1, 7], .row ((celD d).map .tv) false), ([0, 7], .row ((celF f).map .tv) false), (b16_3 l), ([1], .row ((celD d).map .tv) false), ([0], .row ((celF f).map .tv) false)]
noncomputable abbrev b16_38 (f : Fm) (d : Dm) (l : (List ByteArray)) : Hp := [b16_1, ([19, 7], .dfr), (b16_6 f), b16_8, b16_5, ([1, 7], .row ((celD d).map .tv) false), ([0, 7], .row ((celF f).map .tv) false), (b16_3 l), ([1], .row ((celD d).map .tv) false), ([0], .row ((celF f).map .tv) false)]
noncomputable abbrev b16_39 (f : Fm) (d : Dm) (l : (List ByteArray)) (g : Fm) : Hp := [b16_2, ([0, 21, 7], .row [.yl [20, 7]] false), b16_7, ([19, 7], .dfr), (b16_6 f), ([3, 7], .row [.i (errF (oneR d l false) g)] false), b16_5, ([1, 7], .row ((celD d).map .tv) false), ([0, 7], .row ((celF f).map .tv) false), (b16_3 l), ([1], .row ((celD d).map .tv) false), ([0], .row ((celF f).map .tv) false)]
theorem c16 (f : Fm) (d : Dm) (l : (List ByteArray))  : PureCall Tryd.prog 16 [agF f, agD d, .tv (.sli 1 (l.map encStr))] (.i (checkR f d l)) := by
 refine walk0 (fn := Tryd.f16) [.tmp 6] Tryd.func16 rfl (by kernel_rfl) rfl (by kernel_rfl) (by kernel_rfl) ?_
 change AT _ _ _ ⟨[(0, agF f), (1, agD d), (2, .tv (.sli 1 (l.map encStr)))], [], [], 0⟩
 refine at_B [3, 4, 5] [] [] [(1000000, .any), (3, .ptr [0] 0), (4, .ptr [1] 0), (5, .ptr [2] 0)] (b16_26 l d f) 4 (by kernel_rfl) ?_ ?_
 ·exact trivial
 cases hs1 : (((decide ((200 : Int) < (szF f).1)) || (decide ((20 : Int) < (szF f).2))))
 ·have qhs1 := hs1
  (try simp only [brs] at qhs1)
  cases hs2 : ((decide ((errF (oneR d l false) f) = (0 : Int))))
  ·have qhs2 := hs2
   (try simp only [brs] at qhs2)
   refine at_B [6] [.std, .std, .std, .retH (.i (errF (oneR d l false) f)) (b16_26 l d f)] [CallOK Tryd.prog 44 [agF f, agD d, .fn (.func 45) [.ptr [2] 0]] (b16_26 l d f) [7] (fun v1 H1 => v1 = (.i (errF (oneR d l false) f)) ∧ H1 = (b16_26 l d f))] [(1000000, .any), (6, .i (errF (oneR d l false) f))] (b16_26 l d f) 9 (by kernel_rfl) ?_ ?_
   ·refine ⟨?_, trivial⟩
    ·refine call_in (fn := Tryd.f44) [.cell 6 36] Tryd.func44 rfl (by kernel_rfl) rfl ?_
     change AT _ _ _ ⟨[(0, agF f), (1, agD d), (2, .fn (.func 45) [.ptr [2] 0])], (b16_26 l d f), [7], 0⟩
     refine at_B [3, 4, 5, 6] [] [] [(1000000, .any), (3, .ptr [0, 7] 0), (4, .ptr [1, 7] 0), (5, .ptr [2, 7] 0), (6, .ptr [3, 7] 0)] (b16_35 d f l) 4 (by kernel_rfl) ?_ ?_
     ·exact trivial
     refine at_seq ?_
     refine at_B [3, 4, 5, 6, 7, 8] [.std, .ret (.tup [.i ((szF f).1), .i ((szF f).2)])] [PureCall Tryd.prog 14 [agF f] (.tup [.i ((szF f).1), .i ((szF f).2)])] [(1000000, .any), (3, .ptr [0, 7] 0), (4, .ptr [1, 7] 0), (5, .ptr [2, 7] 0), (6, .ptr [3, 7] 0), (7, .i ((szF f).1)), (8, .i ((szF f).2))] (b16_35 d f l) 11 (by kernel_rfl) ?_ ?_
     ·exact ⟨(c14 f), trivial⟩
     refine at_B [3, 4, 5, 6, 20] [] [] [(1000000, .any), (3, .ptr [0, 7] 0), (4, .ptr [1, 7] 0), (5, .ptr [2, 7] 0), (6, .ptr [3, 7] 0), (20, .b ((decide ((200 : Int) < (szF f).1)) || (decide ((20 : Int) < (szF f).2))))] (b16_35 d f l) 17 (by kernel_rfl) ?_ ?_
     ·exact trivial
     refine at_cond (b := ((decide ((200 : Int) < (szF f).1)) || (decide ((20 : Int) < (szF f).2)))) rfl rfl (fun h => ?_) (fun h => ?_)
     ·exact absurd (h.symm.trans hs1) (by decide)
     clear h
     refine at_skip ?_
     change AT _ _ _ _
     refine at_seq ?_
     refine at_B [4, 5, 6, 22] [.std, .retH (.fn (.func 75) [.ptr [0, 18, 7] 0]) (b16_22 f d l)] [CallOK Tryd.prog 49 [agF f] (b16_35 d f l) [18, 7] (fun v1 H1 => v1 = (.fn (.func 75) [.ptr [0, 18, 7] 0]) ∧ H1 = (b16_22 f d l))] [(1000000, .any), (4, .ptr [1, 7] 0), (5, .ptr [2, 7] 0), (6, .ptr [3, 7] 0), (22, .fn (.func 75) [.ptr [0, 18, 7] 0])] (b16_22 f d l) 19 (by kernel_rfl) ?_ ?_
     ·refine ⟨?_, trivial⟩
      ·refine call_in (fn := Tryd.f49) [.tmp 2] Tryd.func49 rfl (by kernel_rfl) rfl ?_
       change AT _ _ _ ⟨[(0, agF f)], (b16_35 d f l), [18, 7], 0⟩
       refine at_B [1] [] [] [(1000000, .any), (1, .ptr [0, 18, 7] 0)] (b16_22 f d l) 2 (by kernel_rfl) ?_ ?_
       ·exact trivial
       refine at_B [2] [] [] [(1000000, .any), (2, .fn (.func 75) [.ptr [0, 18, 7] 0])] (b16_22 f d l) 4 (by kernel_rfl) ?_ ?_
       ·exact trivial
       refine at_ret ?_
       exact fin_in (.inr rfl) [[0, 18, 7], [3, 7], [2, 7], [1, 7], [0, 7], [2], [1], [0]] (.fn (.func 75) [.ptr [0, 18, 7] 0]) (b16_22 f d l) (by kernel_rfl) rfl (by kernel_rfl)
     refine at_block ?_
     refine at_keepB [4, 5, 6, 22] [(1000000, .any), (4, .ptr [1, 7] 0), (5, .ptr [2, 7] 0), (6, .ptr [3, 7] 0), (22, .fn (.func 75) [.ptr [0, 18, 7] 0])] (by kernel_rfl) ?_
     refine at_rf_ret 75 [.ptr [0, 18, 7] 0] (.tup []) [b16_7, ([19, 7], .dfr), (b16_6 f), (b16_13 d l f), b16_5, ([1, 7], .row ((celD d).map .tv) false), ([0, 7], .row ((celF f).map .tv) false), (b16_3 l), ([1], .row ((celD d).map .tv) false), ([0], .row ((celF f).map .tv) false)] [(1000000, .any), (4, .ptr [1, 7] 0), (5, .ptr [2, 7] 0), (6, .ptr [3, 7] 0), (22, .fn (.func 75) [.ptr [0, 18, 7] 0])] 63 [23] (fcode Tryd.f44 [1, 1, 0, 1, 1, 0]) (fcode Tryd.f44 [1, 1, 0, 1, 1, 1]) [4, 5, 6, 22] [[19, 7], [0, 18, 7], [3, 7], [2, 7], [1, 7], [0, 7], [2], [1], [0]] [(1000000, .ds [.ptr [19, 7] 0]), (4, .ptr [1, 7] 0), (5, .ptr [2, 7] 0), (6, .ptr [3, 7] 0), (22, .fn (.func 75) [.ptr [0, 18, 7] 0])] [([19, 7], .dfr), (b16_6 f), (b16_13 d l f), b16_5, ([1, 7], .row ((celD d).map .tv) false), ([0, 7], .row ((celF f).map .tv) false), (b16_3 l), ([1], .row ((celD d).map .tv) false), ([0], .row ((celF f).map .tv) false)] (by kernel_rfl) rfl (by kernel_rfl) ?_ (by kernel_rfl) (by kernel_rfl) rfl (by kernel_rfl) ?_
     ·refine call_in (fn := Tryd.f75) [] Tryd.func75 rfl (by kernel_rfl) rfl ?_
      change AT _ _ _ ⟨[(0, .yl [20, 7]), (1, .ptr [0, 18, 7] 0)], (b16_38 f d l), [21, 7], 0⟩
      refine at_B [1, 2] [] [] [(1000000, .any), (1, .ptr [0, 18, 7] 0), (2, .ptr [0, 21, 7] 0)] (b16_31 f d l) 1 (by kernel_rfl) ?_ ?_
      ·exact trivial
      refine at_B [1, 2, 3] [] [] [(1000000, .any), (1, .ptr [0, 18, 7] 0), (2, .ptr [0, 21, 7] 0), (3, .ptr [1, 21, 7] 0)] (b16_27 f d l) 2 (by kernel_rfl) ?_ ?_
      ·exact trivial
      refine at_B [1, 3] [] [] [(1000000, .any), (1, .ptr [0, 18, 7] 0), (3, .ptr [1, 21, 7] 0)] (b16_34 f d l) 4 (by kernel_rfl) ?_ ?_
      ·exact trivial
      refine at_Bl [] [.std, .std, .retH (.b false) (b16_37 f d l)] [CallOK Tryd.prog 76 [agF f, .ptr [0, 21, 7] 0, .ptr [1, 21, 7] 0] (b16_34 f d l) [6, 21, 7] (fun v1 H1 => v1 = (.b false) ∧ H1 = (b16_37 f d l))] [(1000000, .any)] (b16_37 f d l) 7 (by kernel_rfl) ?_ ?_
      ·refine ⟨?_, trivial⟩
       ·have vis : ∀ g : Fm, ((decide ((errF (oneR d l false) g) = (0 : Int))) = true → CallOK Tryd.prog 76 [agF g, .ptr [0, 21, 7] 0, .ptr [1, 21, 7] 0] (b16_34 f d l) [6, 21, 7] (fun v1 H1 => v1 = (.b true) ∧ H1 = (b16_34 f d l))) ∧ ((decide ((errF (oneR d l false) g) = (0 : Int))) = false → CallOK Tryd.prog 76 [agF g, .ptr [0, 21, 7] 0, .ptr [1, 21, 7] 0] (b16_34 f d l) [6, 21, 7] (fun v1 H1 => v1 = (.b false) ∧ H1 = (b16_39 f d l g))) := by
         refine Fm.ind (fun g ih => ⟨fun hv => ?_, fun hv => ?_⟩)
         ·have hz := errF_zero (of_decide_eq_true hv)
          have ho := one_zero hz.1
          obtain ⟨hk0, hk1, hk2⟩ := vis_known0 ho
          refine call_in (fn := Tryd.f76) [.tmp 4] Tryd.func76 rfl (by kernel_rfl) rfl ?_
          change AT _ _ _ ⟨[(0, agF g), (1, .ptr [0, 21, 7] 0), (2, .ptr [1, 21, 7] 0)], (b16_34 f d l), [6, 21, 7], 0⟩
          refine at_B [1, 2, 3] [] [] [(1000000, .any), (1, .ptr [0, 21, 7] 0), (2, .ptr [1, 21, 7] 0), (3, .ptr [0, 6, 21, 7] 0)] (b16_19 g f d l) 2 (by kernel_rfl) ?_ ?_
          ·exact trivial
          refine at_seq ?_
          refine at_B [2, 3, 10] [.std, .std, .retY (.b true) (b16_19 g f d l)] [YldOK Tryd.prog [20, 7] [agF g] (b16_19 g f d l) [4, 6, 21, 7] (fun v1 H1 => v1 = (.b true) ∧ H1 = (b16_19 g f d l))] [(1000000, .any), (2, .ptr [1, 21, 7] 0), (3, .ptr [0, 6, 21, 7] 0), (10, .b false)] (b16_19 g f d l) 6 (by kernel_rfl) ?_ ?_
          ·refine ⟨?_, trivial⟩
           ·refine yld_in [(1000000, .any), (4, .ptr [1, 7] 0), (5, .ptr [2, 7] 0), (6, .ptr [3, 7] 0), (22, .fn (.func 75) [.ptr [0, 18, 7] 0])] 63 [23] (fcode Tryd.f44 [1, 1, 0, 1, 1, 0]) (fcode Tryd.f44 [1, 1, 0, 1, 1, 1]) none (by kernel_rfl) (by kernel_rfl) (fun lp => ?_)
            change AT _ (fcode Tryd.f44 [1, 1, 0, 1, 1, 0]) _ ⟨[(1000000, .any), (23, agF g), (1000000, .any), (4, .ptr [1, 7] 0), (5, .ptr [2, 7] 0), (6, .ptr [3, 7] 0), (22, .fn (.func 75) [.ptr [0, 18, 7] 0])], (b16_19 g f d l), [4, 6, 21, 7], 0⟩
            refine at_Bl [4, 5, 6, 9] [] [] [(1000000, .any), (4, .ptr [1, 7] 0), (5, .ptr [2, 7] 0), (6, .ptr [3, 7] 0), (9, .ptr [0, 4, 6, 21, 7] 0)] (b16_20 g f d l) 2 (by kernel_rfl) ?_ ?_
            ·exact trivial
            refine asg_end [(1000000, .any), (4, .ptr [1, 7] 0), (5, .ptr [2, 7] 0), (6, .ptr [3, 7] 0), (22, .fn (.func 75) [.ptr [0, 18, 7] 0])] 63 [23] (fcode Tryd.f44 [1, 1, 0, 1, 1, 0]) none (by kernel_rfl) (H1 := (b16_18 g f d l)) (by kernel_rfl) ?_
            refine at_block ?_
            refine at_block ?_
            refine at_B [4, 5, 6, 9, 24] [.std, .ret (.b (formedR g))] [PureCall Tryd.prog 71 [agF g] (.b (formedR g))] [(1000000, .any), (4, .ptr [1, 7] 0), (5, .ptr [2, 7] 0), (6, .ptr [3, 7] 0), (9, .ptr [0, 4, 6, 21, 7] 0), (24, .b (!(formedR g)))] (b16_18 g f d l) 6 (by kernel_rfl) ?_ ?_
            ·exact ⟨(c71 g), trivial⟩
            refine at_cond (b := (!(formedR g))) rfl rfl (fun h => ?_) (fun h => ?_)
            ·exact absurd (h.symm.trans hk0) (by decide)
            clear h
            refine at_B [4, 5, 6, 9, 28] [] [] [(1000000, .any), (4, .ptr [1, 7] 0), (5, .ptr [2, 7] 0), (6, .ptr [3, 7] 0), (9, .ptr [0, 4, 6, 21, 7] 0), (28, .b ((decide (g.op = (3 : Int))) && ((decide (g.n < (0 : Int))) || (decide ((1000000 : Int) < g.n)))))] (b16_18 g f d l) 20 (by kernel_rfl) ?_ ?_
            ·exact trivial
            refine at_cond (b := ((decide (g.op = (3 : Int))) && ((decide (g.n < (0 : Int))) || (decide ((1000000 : Int) < g.n))))) rfl rfl (fun h => ?_) (fun h => ?_)
            ·exact absurd (h.symm.trans hk1) (by decide)
            clear h
            refine at_seq ?_
            refine at_B [5, 6, 9, 42] [.std, .std, .std, .std, .std, .std, .std, .ret (.i (idxF (fcN g.nm) d.fs 0))] [((decide (g.op = (3 : Int))) = true) → PureCall Tryd.prog 57 [agD d, .tv (.str g.nm)] (.i (idxF (fcN g.nm) d.fs 0))] [(1000000, .any), (5, .ptr [2, 7] 0), (6, .ptr [3, 7] 0), (9, .ptr [0, 4, 6, 21, 7] 0), (42, .b ((decide (g.op = (3 : Int))) && (decide ((idxF (fcN g.nm) d.fs 0) < (0 : Int)))))] (b16_18 g f d l) 31 (by kernel_rfl) ?_ ?_
            ·exact ⟨fun hg0 => (c57 d g.nm), trivial⟩
            refine at_mergel (p := [4, 6, 21, 7]) [(1000000, .any), (6, .ptr [3, 7] 0), (42, .b (bif ((decide (g.op = (3 : Int))) && (decide ((idxF (fcN g.nm) d.fs 0) < (0 : Int)))) then ((decide (g.op = (3 : Int))) && (decide ((idxF (fcN g.nm) d.fs 0) < (0 : Int)))) else ((decide (g.op = (4 : Int))) && (!(List.any l (eqR g.nm))))))] [([0, 4, 6, 21, 7], .row ((celF g).map .tv) false), ([0, 6, 21, 7], .row ((celF g).map .tv) false), ([1, 21, 7], .row [.fn (.func 76) [.ptr [0, 21, 7] 0, .ptr [1, 21, 7] 0]] false), ([0, 21, 7], .row [.yl [20, 7]] false), ([20, 7], .loop [(1000000, .any), (4, .ptr [1, 7] 0), (5, .ptr [2, 7] 0), (6, .ptr [3, 7] 0), (22, .fn (.func 75) [.ptr [0, 18, 7] 0])] 63 [23] (fcode Tryd.f44 [1, 1, 0, 1, 1, 0]) (fcode Tryd.f44 [1, 1, 0, 1, 1, 1]) .busy none), ([19, 7], .dfr), ([0, 18, 7], .row ((celF f).map .tv) false), ([3, 7], .row [.i 0] false), ([2, 7], .row [.fn (.func 45) [.ptr [2] 0]] false), ([1, 7], .row ((celD d).map .tv) false), ([0, 7], .row ((celF f).map .tv) false), ([2], .row [.tv (.sli 1 (l.map encStr))] false), ([1], .row ((celD d).map .tv) false), ([0], .row ((celF f).map .tv) false)] 42 ?_ ?_
            ·refine at_cond (b := ((decide (g.op = (3 : Int))) && (decide ((idxF (fcN g.nm) d.fs 0) < (0 : Int))))) rfl rfl (fun hc42_140 => ?_) (fun hc42_140 => ?_)
             ·skip
              refine at_skip ?_
              exact gh_merge [6, 42] [[0, 4, 6, 21, 7], [0, 6, 21, 7], [1, 21, 7], [0, 21, 7], [20, 7], [19, 7], [0, 18, 7], [3, 7], [2, 7], [1, 7], [0, 7], [2], [1], [0]] (Eq.trans (b := [(1000000, .any), (6, .ptr [3, 7] 0), (42, .b ((decide (g.op = (3 : Int))) && (decide ((idxF (fcN g.nm) d.fs 0) < (0 : Int)))))]) (by kernel_rfl) (by simp only [hc42_140, cond_true, cond_false]; try rfl)) (by kernel_rfl) (by kernel_rfl)
             ·skip
              refine at_Bl [6, 42] [.std, .std, .std, .std, .std, .std, .std, .retS (.b (List.any l (eqR g.nm)))] [((decide (g.op = (4 : Int))) = true) → StabCall Tryd.prog 45 [.tv (.str g.nm), .ptr [2] 0] (b16_18 g f d l) (.b (List.any l (eqR g.nm)))] [(1000000, .any), (6, .ptr [3, 7] 0), (42, .b ((decide (g.op = (4 : Int))) && (!(List.any l (eqR g.nm)))))] (b16_18 g f d l) 42 (by kernel_rfl) ?_ ?_
              ·exact ⟨fun hg0 => StabCall.mono (H := [(b16_3 l)]) (stab_mv (args := [.tv (.str g.nm), .ptr [0] 0]) (H := [(b16_17 l)]) (H2 := [(b16_3 l)]) (q := [50]) [([2], [0])] [([0], [2])] [] [] ((c45 g.nm l) _ _ (fun _ _ h => h)) (by kernel_rfl) (by kernel_rfl) (trivial) (by kernel_rfl) (by kernel_rfl) (trivial)) (sub_cons (by kernel_rfl) sub_nil), trivial⟩
              exact gh_merge [6, 42] [[0, 4, 6, 21, 7], [0, 6, 21, 7], [1, 21, 7], [0, 21, 7], [20, 7], [19, 7], [0, 18, 7], [3, 7], [2, 7], [1, 7], [0, 7], [2], [1], [0]] (Eq.trans (b := [(1000000, .any), (6, .ptr [3, 7] 0), (42, .b ((decide (g.op = (4 : Int))) && (!(List.any l (eqR g.nm)))))]) (by kernel_rfl) (by simp only [hc42_140, cond_true, cond_false]; try rfl)) (by kernel_rfl) (by kernel_rfl)
            change AT _ _ _ _
            refine at_cond (b := (bif ((decide (g.op = (3 : Int))) && (decide ((idxF (fcN g.nm) d.fs 0) < (0 : Int)))) then ((decide (g.op = (3 : Int))) && (decide ((idxF (fcN g.nm) d.fs 0) < (0 : Int)))) else ((decide (g.op = (4 : Int))) && (!(List.any l (eqR g.nm)))))) rfl rfl (fun h => ?_) (fun h => ?_)
            ·exact absurd (h.symm.trans hk2) (by decide)
            clear h
            refine at_skip ?_
            exact round_end (q := [4, 6, 21, 7]) [[0, 6, 21, 7], [1, 21, 7], [0, 21, 7], [20, 7], [19, 7], [0, 18, 7], [3, 7], [2, 7], [1, 7], [0, 7], [2], [1], [0]] [(1000000, .any), (4, .ptr [1, 7] 0), (5, .ptr [2, 7] 0), (6, .ptr [3, 7] 0), (22, .fn (.func 75) [.ptr [0, 18, 7] 0])] 63 [23] (fcode Tryd.f44 [1, 1, 0, 1, 1, 0]) (fcode Tryd.f44 [1, 1, 0, 1, 1, 1]) .busy none (by kernel_rfl) rfl (by kernel_rfl)
          refine at_cond (b := false) rfl rfl (fun h => ?_) (fun h => ?_)
          ·cases h
          clear h
          refine at_skip ?_
          change AT _ _ _ _
          refine at_seq ?_
          refine at_B [2, 12, 13, 14] [] [] [(1000000, .any), (2, .ptr [1, 21, 7] 0), (12, .tv (.sli 5 (g.ks.map encF))), (13, .i (((g.ks.map encF).length : Nat) : Int)), (14, .i 0)] (b16_19 g f d l) 10 (by kernel_rfl) ?_ ?_
          ·exact trivial
          refine at_block ?_
          refine at_len 12 rfl (fun hlen => ?_)
          refine at_loopR (X := Nat) 0 (fun (i : Nat) => [(1000000, .any), (2, .ptr [1, 21, 7] 0), (12, .tv (.sli 5 (g.ks.map encF))), (13, .i (((g.ks.map encF).length : Nat) : Int)), (14, .i ((i : Nat) : Int))]) (fun (i : Nat) => (b16_34 f d l)) (fun (i : Nat) => i ≤ g.ks.length) (fun (i : Nat) => g.ks.length - i) 0 ?_ ?_ ?_
          ·exact Nat.zero_le _
          ·exact rn_ok [([1, 21, 7], [1, 21, 7]), ([0, 21, 7], [0, 21, 7]), ([20, 7], [20, 7]), ([19, 7], [19, 7]), ([0, 18, 7], [0, 18, 7]), ([3, 7], [3, 7]), ([2, 7], [2, 7]), ([1, 7], [1, 7]), ([0, 7], [0, 7]), ([2], [2]), ([1], [1]), ([0], [0])] [] [2, 12, 13, 14] (trivial) (by kernel_rfl)
          ·intro i hinv
           have hx1 := hinv
           refine at_B [2, 12, 13, 14, 15] [] [] [(1000000, .any), (2, .ptr [1, 21, 7] 0), (12, .tv (.sli 5 (g.ks.map encF))), (13, .i (((g.ks.map encF).length : Nat) : Int)), (14, .i ((i : Nat) : Int)), (15, .b (decide (((i : Nat) : Int) < (((g.ks.map encF).length : Nat) : Int))))] (b16_34 f d l) 1 (by kernel_rfl) ?_ ?_
           ·exact trivial
           refine at_seq ?_
           refine at_cond (b := (decide (((i : Nat) : Int) < (((g.ks.map encF).length : Nat) : Int)))) rfl rfl (fun hc15_139 => ?_) (fun hc15_139 => ?_)
           ·have q15_139 := hc15_139
            (try simp only [brs] at q15_139)
            refine at_skip ?_
            change AT _ _ _ _
            refine at_seq ?_
            refine at_block ?_
            refine at_B [2, 6, 12, 13, 14] [.eq (.tv (.ptr (celF (g.ks.getD i Fm.z))))] [(0 ≤ ((i : Nat) : Int) ∧ ((i : Nat) : Int) < ((((g.ks.map encF) : List (List TV)).length : Nat) : Int)), (.tv (.ptr (rowAt (g.ks.map encF) ((i : Nat) : Int))) : AV) = .tv (.ptr (celF (g.ks.getD i Fm.z)))] [(1000000, .any), (2, .ptr [1, 21, 7] 0), (6, .ptr [3, 10, 6, 21, 7] 0), (12, .tv (.sli 5 (g.ks.map encF))), (13, .i (((g.ks.map encF).length : Nat) : Int)), (14, .i ((i : Nat) : Int))] (b16_21 g i f d l) 5 (by kernel_rfl) ?_ ?_
            ·exact ⟨by (try simp only [lns] at *); omega, congrArg (fun c => AV.tv (.ptr c)) (row_F g.ks ((i : Nat) : Int) (by (try simp only [brs, lns] at *); omega)), trivial⟩
            have hkid : (decide ((errF (oneR d l false) (g.ks.getD i Fm.z)) = (0 : Int))) = true := decide_eq_true (hz.2 _ (getD_mem (by omega)))
            refine at_B [2, 12, 13, 14, 21] [.std, .std, .retH (.b true) (b16_34 f d l)] [CallOK Tryd.prog 76 [agF (g.ks.getD i Fm.z), .ptr [0, 21, 7] 0, .ptr [1, 21, 7] 0] (b16_21 g i f d l) [7, 10, 6, 21, 7] (fun v1 H1 => v1 = (.b true) ∧ H1 = (b16_34 f d l))] [(1000000, .any), (2, .ptr [1, 21, 7] 0), (12, .tv (.sli 5 (g.ks.map encF))), (13, .i (((g.ks.map encF).length : Nat) : Int)), (14, .i ((i : Nat) : Int)), (21, .b false)] (b16_34 f d l) 9 (by kernel_rfl) ?_ ?_
            ·refine ⟨?_, trivial⟩
             ·exact call_mv [([1, 21, 7], [1, 21, 7]), ([0, 21, 7], [0, 21, 7]), ([20, 7], [20, 7]), ([19, 7], [19, 7]), ([0, 18, 7], [0, 18, 7]), ([3, 7], [3, 7]), ([2, 7], [2, 7]), ([1, 7], [1, 7]), ([0, 7], [0, 7]), ([2], [2]), ([1], [1]), ([0], [0])] [([1, 21, 7], [1, 21, 7]), ([0, 21, 7], [0, 21, 7]), ([20, 7], [20, 7]), ([19, 7], [19, 7]), ([0, 18, 7], [0, 18, 7]), ([3, 7], [3, 7]), ([2, 7], [2, 7]), ([1, 7], [1, 7]), ([0, 7], [0, 7]), ([2], [2]), ([1], [1]), ([0], [0])] [] [] ((ih (g.ks.getD i Fm.z) (getD_mem (by omega))).1 hkid) (by kernel_rfl) (by kernel_rfl) trivial (by kernel_rfl) (by kernel_rfl) trivial (by kernel_rfl)
            refine at_cond (b := false) rfl rfl (fun h => ?_) (fun h => ?_)
            ·cases h
            clear h
            refine at_skip ?_
            change AT _ _ _ _
            refine at_Bl [2, 12, 13, 14] [.eq (.i ((i + 1 : Nat) : Int))] [(.i (wr (((i : Nat) : Int) + 1)) : AV) = .i ((i + 1 : Nat) : Int)] [(1000000, .any), (2, .ptr [1, 21, 7] 0), (12, .tv (.sli 5 (g.ks.map encF))), (13, .i (((g.ks.map encF).length : Nat) : Int)), (14, .i ((i + 1 : Nat) : Int))] (b16_34 f d l) 11 (by kernel_rfl) ?_ ?_
            ·exact ⟨succ_av i (by (try simp only [lns] at *); omega), trivial⟩
            refine ⟨rfl, (i + 1), ?_, ?_, ?_⟩
            ·(try dsimp only); omega
            ·omega
            ·exact rn_ok [([1, 21, 7], [1, 21, 7]), ([0, 21, 7], [0, 21, 7]), ([20, 7], [20, 7]), ([19, 7], [19, 7]), ([0, 18, 7], [0, 18, 7]), ([3, 7], [3, 7]), ([2, 7], [2, 7]), ([1, 7], [1, 7]), ([0, 7], [0, 7]), ([2], [2]), ([1], [1]), ([0], [0])] [] [2, 12, 13, 14] (trivial) (by kernel_rfl)
           ·have q15_139 := hc15_139
            (try simp only [brs] at q15_139)
            refine at_exit ?_
            change AT _ _ _ _
            refine at_B [4] [] [] [(1000000, .any), (4, .b true)] (b16_34 f d l) 12 (by kernel_rfl) ?_ ?_
            ·exact trivial
            refine at_ret ?_
            exact fin_in (.inr rfl) [[1, 21, 7], [0, 21, 7], [20, 7], [19, 7], [0, 18, 7], [3, 7], [2, 7], [1, 7], [0, 7], [2], [1], [0]] (.b true) (b16_34 f d l) (by kernel_rfl) rfl (by kernel_rfl)
         ·skip
          refine call_in (fn := Tryd.f76) [.tmp 4] Tryd.func76 rfl (by kernel_rfl) rfl ?_
          change AT _ _ _ ⟨[(0, agF g), (1, .ptr [0, 21, 7] 0), (2, .ptr [1, 21, 7] 0)], (b16_34 f d l), [6, 21, 7], 0⟩
          refine at_B [1, 2, 3] [] [] [(1000000, .any), (1, .ptr [0, 21, 7] 0), (2, .ptr [1, 21, 7] 0), (3, .ptr [0, 6, 21, 7] 0)] (b16_19 g f d l) 2 (by kernel_rfl) ?_ ?_
          ·exact trivial
          refine at_seq ?_
          cases hs_1411 : ((!(formedR g)))
          ·have qhs_1411 := hs_1411
           (try simp only [brs] at qhs_1411)
           cases hs_1412 : (((decide (g.op = (3 : Int))) && ((decide (g.n < (0 : Int))) || (decide ((1000000 : Int) < g.n)))))
           ·have qhs_1412 := hs_1412
            (try simp only [brs] at qhs_1412)
            cases hs_1413 : ((bif ((decide (g.op = (3 : Int))) && (decide ((idxF (fcN g.nm) d.fs 0) < (0 : Int)))) then ((decide (g.op = (3 : Int))) && (decide ((idxF (fcN g.nm) d.fs 0) < (0 : Int)))) else ((decide (g.op = (4 : Int))) && (!(List.any l (eqR g.nm))))))
            ·have qhs_1413 := hs_1413
             (try simp only [brs] at qhs_1413)
             refine at_B [2, 3, 10] [.std, .std, .retY (.b true) (b16_19 g f d l)] [YldOK Tryd.prog [20, 7] [agF g] (b16_19 g f d l) [4, 6, 21, 7] (fun v1 H1 => v1 = (.b true) ∧ H1 = (b16_19 g f d l))] [(1000000, .any), (2, .ptr [1, 21, 7] 0), (3, .ptr [0, 6, 21, 7] 0), (10, .b false)] (b16_19 g f d l) 6 (by kernel_rfl) ?_ ?_
             ·refine ⟨?_, trivial⟩
              ·refine yld_in [(1000000, .any), (4, .ptr [1, 7] 0), (5, .ptr [2, 7] 0), (6, .ptr [3, 7] 0), (22, .fn (.func 75) [.ptr [0, 18, 7] 0])] 63 [23] (fcode Tryd.f44 [1, 1, 0, 1, 1, 0]) (fcode Tryd.f44 [1, 1, 0, 1, 1, 1]) none (by kernel_rfl) (by kernel_rfl) (fun lp => ?_)
               change AT _ (fcode Tryd.f44 [1, 1, 0, 1, 1, 0]) _ ⟨[(1000000, .any), (23, agF g), (1000000, .any), (4, .ptr [1, 7] 0), (5, .ptr [2, 7] 0), (6, .ptr [3, 7] 0), (22, .fn (.func 75) [.ptr [0, 18, 7] 0])], (b16_19 g f d l), [4, 6, 21, 7], 0⟩
               refine at_Bl [4, 5, 6, 9] [] [] [(1000000, .any), (4, .ptr [1, 7] 0), (5, .ptr [2, 7] 0), (6, .ptr [3, 7] 0), (9, .ptr [0, 4, 6, 21, 7] 0)] (b16_20 g f d l) 2 (by kernel_rfl) ?_ ?_
               ·exact trivial
               refine asg_end [(1000000, .any), (4, .ptr [1, 7] 0), (5, .ptr [2, 7] 0), (6, .ptr [3, 7] 0), (22, .fn (.func 75) [.ptr [0, 18, 7] 0])] 63 [23] (fcode Tryd.f44 [1, 1, 0, 1, 1, 0]) none (by kernel_rfl) (H1 := (b16_18 g f d l)) (by kernel_rfl) ?_
               refine at_block ?_
               refine at_block ?_
               refine at_B [4, 5, 6, 9, 24] [.std, .ret (.b (formedR g))] [PureCall Tryd.prog 71 [agF g] (.b (formedR g))] [(1000000, .any), (4, .ptr [1, 7] 0), (5, .ptr [2, 7] 0), (6, .ptr [3, 7] 0), (9, .ptr [0, 4, 6, 21, 7] 0), (24, .b (!(formedR g)))] (b16_18 g f d l) 6 (by kernel_rfl) ?_ ?_
               ·exact ⟨(c71 g), trivial⟩
               refine at_cond (b := (!(formedR g))) rfl rfl (fun h => ?_) (fun h => ?_)
               ·exact absurd (h.symm.trans hs_1411) (by decide)
               clear h
               refine at_B [4, 5, 6, 9, 28] [] [] [(1000000, .any), (4, .ptr [1, 7] 0), (5, .ptr [2, 7] 0), (6, .ptr [3, 7] 0), (9, .ptr [0, 4, 6, 21, 7] 0), (28, .b ((decide (g.op = (3 : Int))) && ((decide (g.n < (0 : Int))) || (decide ((1000000 : Int) < g.n)))))] (b16_18 g f d l) 20 (by kernel_rfl) ?_ ?_
               ·exact trivial
               refine at_cond (b := ((decide (g.op = (3 : Int))) && ((decide (g.n < (0 : Int))) || (decide ((1000000 : Int) < g.n))))) rfl rfl (fun h => ?_) (fun h => ?_)
               ·exact absurd (h.symm.trans hs_1412) (by decide)
               clear h
               refine at_seq ?_
               refine at_B [5, 6, 9, 42] [.std, .std, .std, .std, .std, .std, .std, .ret (.i (idxF (fcN g.nm) d.fs 0))] [((decide (g.op = (3 : Int))) = true) → PureCall Tryd.prog 57 [agD d, .tv (.str g.nm)] (.i (idxF (fcN g.nm) d.fs 0))] [(1000000, .any), (5, .ptr [2, 7] 0), (6, .ptr [3, 7] 0), (9, .ptr [0, 4, 6, 21, 7] 0), (42, .b ((decide (g.op = (3 : Int))) && (decide ((idxF (fcN g.nm) d.fs 0) < (0 : Int)))))] (b16_18 g f d l) 31 (by kernel_rfl) ?_ ?_
               ·exact ⟨fun hg0 => (c57 d g.nm), trivial⟩
               refine at_mergel (p := [4, 6, 21, 7]) [(1000000, .any), (6, .ptr [3, 7] 0), (42, .b (bif ((decide (g.op = (3 : Int))) && (decide ((idxF (fcN g.nm) d.fs 0) < (0 : Int)))) then ((decide (g.op = (3 : Int))) && (decide ((idxF (fcN g.nm) d.fs 0) < (0 : Int)))) else ((decide (g.op = (4 : Int))) && (!(List.any l (eqR g.nm))))))] [([0, 4, 6, 21, 7], .row ((celF g).map .tv) false), ([0, 6, 21, 7], .row ((celF g).map .tv) false), ([1, 21, 7], .row [.fn (.func 76) [.ptr [0, 21, 7] 0, .ptr [1, 21, 7] 0]] false), ([0, 21, 7], .row [.yl [20, 7]] false), ([20, 7], .loop [(1000000, .any), (4, .ptr [1, 7] 0), (5, .ptr [2, 7] 0), (6, .ptr [3, 7] 0), (22, .fn (.func 75) [.ptr [0, 18, 7] 0])] 63 [23] (fcode Tryd.f44 [1, 1, 0, 1, 1, 0]) (fcode Tryd.f44 [1, 1, 0, 1, 1, 1]) .busy none), ([19, 7], .dfr), ([0, 18, 7], .row ((celF f).map .tv) false), ([3, 7], .row [.i 0] false), ([2, 7], .row [.fn (.func 45) [.ptr [2] 0]] false), ([1, 7], .row ((celD d).map .tv) false), ([0, 7], .row ((celF f).map .tv) false), ([2], .row [.tv (.sli 1 (l.map encStr))] false), ([1], .row ((celD d).map .tv) false), ([0], .row ((celF f).map .tv) false)] 42 ?_ ?_
               ·refine at_cond (b := ((decide (g.op = (3 : Int))) && (decide ((idxF (fcN g.nm) d.fs 0) < (0 : Int))))) rfl rfl (fun hc42_145 => ?_) (fun hc42_145 => ?_)
                ·skip
                 refine at_skip ?_
                 exact gh_merge [6, 42] [[0, 4, 6, 21, 7], [0, 6, 21, 7], [1, 21, 7], [0, 21, 7], [20, 7], [19, 7], [0, 18, 7], [3, 7], [2, 7], [1, 7], [0, 7], [2], [1], [0]] (Eq.trans (b := [(1000000, .any), (6, .ptr [3, 7] 0), (42, .b ((decide (g.op = (3 : Int))) && (decide ((idxF (fcN g.nm) d.fs 0) < (0 : Int)))))]) (by kernel_rfl) (by simp only [hc42_145, cond_true, cond_false]; try rfl)) (by kernel_rfl) (by kernel_rfl)
                ·skip
                 refine at_Bl [6, 42] [.std, .std, .std, .std, .std, .std, .std, .retS (.b (List.any l (eqR g.nm)))] [((decide (g.op = (4 : Int))) = true) → StabCall Tryd.prog 45 [.tv (.str g.nm), .ptr [2] 0] (b16_18 g f d l) (.b (List.any l (eqR g.nm)))] [(1000000, .any), (6, .ptr [3, 7] 0), (42, .b ((decide (g.op = (4 : Int))) && (!(List.any l (eqR g.nm)))))] (b16_18 g f d l) 42 (by kernel_rfl) ?_ ?_
                 ·exact ⟨fun hg0 => StabCall.mono (H := [(b16_3 l)]) (stab_mv (args := [.tv (.str g.nm), .ptr [0] 0]) (H := [(b16_17 l)]) (H2 := [(b16_3 l)]) (q := [50]) [([2], [0])] [([0], [2])] [] [] ((c45 g.nm l) _ _ (fun _ _ h => h)) (by kernel_rfl) (by kernel_rfl) (trivial) (by kernel_rfl) (by kernel_rfl) (trivial)) (sub_cons (by kernel_rfl) sub_nil), trivial⟩
                 exact gh_merge [6, 42] [[0, 4, 6, 21, 7], [0, 6, 21, 7], [1, 21, 7], [0, 21, 7], [20, 7], [19, 7], [0, 18, 7], [3, 7], [2, 7], [1, 7], [0, 7], [2], [1], [0]] (Eq.trans (b := [(1000000, .any), (6, .ptr [3, 7] 0), (42, .b ((decide (g.op = (4 : Int))) && (!(List.any l (eqR g.nm)))))]) (by kernel_rfl) (by simp only [hc42_145, cond_true, cond_false]; try rfl)) (by kernel_rfl) (by kernel_rfl)
               change AT _ _ _ _
               refine at_cond (b := (bif ((decide (g.op = (3 : Int))) && (decide ((idxF (fcN g.nm) d.fs 0) < (0 : Int)))) then ((decide (g.op = (3 : Int))) && (decide ((idxF (fcN g.nm) d.fs 0) < (0 : Int)))) else ((decide (g.op = (4 : Int))) && (!(List.any l (eqR g.nm)))))) rfl rfl (fun h => ?_) (fun h => ?_)
               ·exact absurd (h.symm.trans hs_1413) (by decide)
               clear h
               refine at_skip ?_
               exact round_end (q := [4, 6, 21, 7]) [[0, 6, 21, 7], [1, 21, 7], [0, 21, 7], [20, 7], [19, 7], [0, 18, 7], [3, 7], [2, 7], [1, 7], [0, 7], [2], [1], [0]] [(1000000, .any), (4, .ptr [1, 7] 0), (5, .ptr [2, 7] 0), (6, .ptr [3, 7] 0), (22, .fn (.func 75) [.ptr [0, 18, 7] 0])] 63 [23] (fcode Tryd.f44 [1, 1, 0, 1, 1, 0]) (fcode Tryd.f44 [1, 1, 0, 1, 1, 1]) .busy none (by kernel_rfl) rfl (by kernel_rfl)
             refine at_cond (b := false) rfl rfl (fun h => ?_) (fun h => ?_)
             ·cases h
             clear h
             refine at_skip ?_
             change AT _ _ _ _
             refine at_seq ?_
             refine at_B [2, 12, 13, 14] [] [] [(1000000, .any), (2, .ptr [1, 21, 7] 0), (12, .tv (.sli 5 (g.ks.map encF))), (13, .i (((g.ks.map encF).length : Nat) : Int)), (14, .i 0)] (b16_19 g f d l) 10 (by kernel_rfl) ?_ ?_
             ·exact trivial
             refine at_block ?_
             refine at_len 12 rfl (fun hlen => ?_)
             have hz0 := one_0 hs_1411 hs_1412 ((vis_n0 (l := l)).symm.trans hs_1413)
             refine at_loopR (X := Nat) 0 (fun (i : Nat) => [(1000000, .any), (2, .ptr [1, 21, 7] 0), (12, .tv (.sli 5 (g.ks.map encF))), (13, .i (((g.ks.map encF).length : Nat) : Int)), (14, .i ((i : Nat) : Int))]) (fun (i : Nat) => (b16_34 f d l)) (fun (i : Nat) => i ≤ g.ks.length ∧ errFs (oneR d l false) (g.ks.drop i) = errF (oneR d l false) g) (fun (i : Nat) => g.ks.length - i) 0 ?_ ?_ ?_
             ·exact ⟨Nat.zero_le _, vis_start (by simpa using hv) hz0⟩
             ·exact rn_ok [([1, 21, 7], [1, 21, 7]), ([0, 21, 7], [0, 21, 7]), ([20, 7], [20, 7]), ([19, 7], [19, 7]), ([0, 18, 7], [0, 18, 7]), ([3, 7], [3, 7]), ([2, 7], [2, 7]), ([1, 7], [1, 7]), ([0, 7], [0, 7]), ([2], [2]), ([1], [1]), ([0], [0])] [] [2, 12, 13, 14] (trivial) (by kernel_rfl)
             ·intro i hinv
              obtain ⟨hx1, hx2⟩ := hinv
              refine at_B [2, 12, 13, 14, 15] [] [] [(1000000, .any), (2, .ptr [1, 21, 7] 0), (12, .tv (.sli 5 (g.ks.map encF))), (13, .i (((g.ks.map encF).length : Nat) : Int)), (14, .i ((i : Nat) : Int)), (15, .b (decide (((i : Nat) : Int) < (((g.ks.map encF).length : Nat) : Int))))] (b16_34 f d l) 1 (by kernel_rfl) ?_ ?_
              ·exact trivial
              refine at_seq ?_
              refine at_cond (b := (decide (((i : Nat) : Int) < (((g.ks.map encF).length : Nat) : Int)))) rfl rfl (fun hc15_141 => ?_) (fun hc15_141 => ?_)
              ·have q15_141 := hc15_141
               (try simp only [brs] at q15_141)
               refine at_skip ?_
               change AT _ _ _ _
               refine at_seq ?_
               refine at_block ?_
               refine at_B [2, 6, 12, 13, 14] [.eq (.tv (.ptr (celF (g.ks.getD i Fm.z))))] [(0 ≤ ((i : Nat) : Int) ∧ ((i : Nat) : Int) < ((((g.ks.map encF) : List (List TV)).length : Nat) : Int)), (.tv (.ptr (rowAt (g.ks.map encF) ((i : Nat) : Int))) : AV) = .tv (.ptr (celF (g.ks.getD i Fm.z)))] [(1000000, .any), (2, .ptr [1, 21, 7] 0), (6, .ptr [3, 10, 6, 21, 7] 0), (12, .tv (.sli 5 (g.ks.map encF))), (13, .i (((g.ks.map encF).length : Nat) : Int)), (14, .i ((i : Nat) : Int))] (b16_21 g i f d l) 5 (by kernel_rfl) ?_ ?_
               ·exact ⟨by (try simp only [lns] at *); omega, congrArg (fun c => AV.tv (.ptr c)) (row_F g.ks ((i : Nat) : Int) (by (try simp only [brs, lns] at *); omega)), trivial⟩
               cases hs_1414 : ((decide ((errF (oneR d l false) (g.ks.getD i Fm.z)) = (0 : Int))))
               ·have qhs_1414 := hs_1414
                (try simp only [brs] at qhs_1414)
                refine at_B [2, 12, 13, 14, 21] [.std, .std, .retH (.b false) (b16_36 f d l g i)] [CallOK Tryd.prog 76 [agF (g.ks.getD i Fm.z), .ptr [0, 21, 7] 0, .ptr [1, 21, 7] 0] (b16_21 g i f d l) [7, 10, 6, 21, 7] (fun v1 H1 => v1 = (.b false) ∧ H1 = (b16_36 f d l g i))] [(1000000, .any), (2, .ptr [1, 21, 7] 0), (12, .tv (.sli 5 (g.ks.map encF))), (13, .i (((g.ks.map encF).length : Nat) : Int)), (14, .i ((i : Nat) : Int)), (21, .b true)] (b16_36 f d l g i) 9 (by kernel_rfl) ?_ ?_
                ·refine ⟨?_, trivial⟩
                 ·exact call_mv [([1, 21, 7], [1, 21, 7]), ([0, 21, 7], [0, 21, 7]), ([20, 7], [20, 7]), ([19, 7], [19, 7]), ([0, 18, 7], [0, 18, 7]), ([3, 7], [3, 7]), ([2, 7], [2, 7]), ([1, 7], [1, 7]), ([0, 7], [0, 7]), ([2], [2]), ([1], [1]), ([0], [0])] [([1, 21, 7], [1, 21, 7]), ([0, 21, 7], [0, 21, 7]), ([20, 7], [20, 7]), ([19, 7], [19, 7]), ([0, 18, 7], [0, 18, 7]), ([3, 7], [3, 7]), ([2, 7], [2, 7]), ([1, 7], [1, 7]), ([0, 7], [0, 7]), ([2], [2]), ([1], [1]), ([0], [0])] [] [] ((ih (g.ks.getD i Fm.z) (getD_mem (by omega))).2 hs_1414) (by kernel_rfl) (by kernel_rfl) trivial (by kernel_rfl) (by kernel_rfl) trivial (by kernel_rfl)
                refine at_cond (b := true) rfl rfl (fun h => ?_) (fun h => ?_)
                rotate_left
                ·cases h
                clear h
                refine at_B [4] [] [] [(1000000, .any), (4, .b false)] (b16_36 f d l g i) 10 (by kernel_rfl) ?_ ?_
                ·exact trivial
                refine at_ret ?_
                exact fin_in (.inr rfl) [[1, 21, 7], [0, 21, 7], [20, 7], [19, 7], [0, 18, 7], [3, 7], [2, 7], [1, 7], [0, 7], [2], [1], [0]] (.b false) [([1, 21, 7], .row [.fn (.func 76) [.ptr [0, 21, 7] 0, .ptr [1, 21, 7] 0]] false), ([0, 21, 7], .row [.yl [20, 7]] false), ([20, 7], .loop [(1000000, .any), (4, .ptr [1, 7] 0), (5, .ptr [2, 7] 0), (6, .ptr [3, 7] 0), (22, .fn (.func 75) [.ptr [0, 18, 7] 0])] 63 [23] (fcode Tryd.f44 [1, 1, 0, 1, 1, 0]) (fcode Tryd.f44 [1, 1, 0, 1, 1, 1]) .done (some .ret)), ([19, 7], .dfr), ([0, 18, 7], .row ((celF f).map .tv) false), ([3, 7], .row [.i (errF (oneR d l false) (g.ks.getD i Fm.z))] false), ([2, 7], .row [.fn (.func 45) [.ptr [2] 0]] false), ([1, 7], .row ((celD d).map .tv) false), ([0, 7], .row ((celF f).map .tv) false), ([2], .row [.tv (.sli 1 (l.map encStr))] false), ([1], .row ((celD d).map .tv) false), ([0], .row ((celF f).map .tv) false)] (by kernel_rfl) rfl (by show keepH _ _ = [([1, 21, 7], .row [.fn (.func 76) [.ptr [0, 21, 7] 0, .ptr [1, 21, 7] 0]] false), ([0, 21, 7], .row [.yl [20, 7]] false), ([20, 7], .loop [(1000000, .any), (4, .ptr [1, 7] 0), (5, .ptr [2, 7] 0), (6, .ptr [3, 7] 0), (22, .fn (.func 75) [.ptr [0, 18, 7] 0])] 63 [23] (fcode Tryd.f44 [1, 1, 0, 1, 1, 0]) (fcode Tryd.f44 [1, 1, 0, 1, 1, 1]) .done (some .ret)), ([19, 7], .dfr), ([0, 18, 7], .row ((celF f).map .tv) false), ([3, 7], .row [.i (errF (oneR d l false) g)] false), ([2, 7], .row [.fn (.func 45) [.ptr [2] 0]] false), ([1, 7], .row ((celD d).map .tv) false), ([0, 7], .row ((celF f).map .tv) false), ([2], .row [.tv (.sli 1 (l.map encStr))] false), ([1], .row ((celD d).map .tv) false), ([0], .row ((celF f).map .tv) false)]; rw [show errF (oneR d l false) g = _ from (err_stop (i := i) (by omega) hx2 (of_decide_eq_false hs_1414))]; kernel_rfl)
               ·have qhs_1414 := hs_1414
                (try simp only [brs] at qhs_1414)
                refine at_B [2, 12, 13, 14, 21] [.std, .std, .retH (.b true) (b16_34 f d l)] [CallOK Tryd.prog 76 [agF (g.ks.getD i Fm.z), .ptr [0, 21, 7] 0, .ptr [1, 21, 7] 0] (b16_21 g i f d l) [7, 10, 6, 21, 7] (fun v1 H1 => v1 = (.b true) ∧ H1 = (b16_34 f d l))] [(1000000, .any), (2, .ptr [1, 21, 7] 0), (12, .tv (.sli 5 (g.ks.map encF))), (13, .i (((g.ks.map encF).length : Nat) : Int)), (14, .i ((i : Nat) : Int)), (21, .b false)] (b16_34 f d l) 9 (by kernel_rfl) ?_ ?_
                ·refine ⟨?_, trivial⟩
                 ·exact call_mv [([1, 21, 7], [1, 21, 7]), ([0, 21, 7], [0, 21, 7]), ([20, 7], [20, 7]), ([19, 7], [19, 7]), ([0, 18, 7], [0, 18, 7]), ([3, 7], [3, 7]), ([2, 7], [2, 7]), ([1, 7], [1, 7]), ([0, 7], [0, 7]), ([2], [2]), ([1], [1]), ([0], [0])] [([1, 21, 7], [1, 21, 7]), ([0, 21, 7], [0, 21, 7]), ([20, 7], [20, 7]), ([19, 7], [19, 7]), ([0, 18, 7], [0, 18, 7]), ([3, 7], [3, 7]), ([2, 7], [2, 7]), ([1, 7], [1, 7]), ([0, 7], [0, 7]), ([2], [2]), ([1], [1]), ([0], [0])] [] [] ((ih (g.ks.getD i Fm.z) (getD_mem (by omega))).1 hs_1414) (by kernel_rfl) (by kernel_rfl) trivial (by kernel_rfl) (by kernel_rfl) trivial (by kernel_rfl)
                refine at_cond (b := false) rfl rfl (fun h => ?_) (fun h => ?_)
                ·cases h
                clear h
                refine at_skip ?_
                change AT _ _ _ _
                refine at_Bl [2, 12, 13, 14] [.eq (.i ((i + 1 : Nat) : Int))] [(.i (wr (((i : Nat) : Int) + 1)) : AV) = .i ((i + 1 : Nat) : Int)] [(1000000, .any), (2, .ptr [1, 21, 7] 0), (12, .tv (.sli 5 (g.ks.map encF))), (13, .i (((g.ks.map encF).length : Nat) : Int)), (14, .i ((i + 1 : Nat) : Int))] (b16_34 f d l) 11 (by kernel_rfl) ?_ ?_
                ·exact ⟨succ_av i (by (try simp only [lns] at *); omega), trivial⟩
                refine ⟨rfl, (i + 1), ?_, ?_, ?_⟩
                ·(try dsimp only); omega
                ·exact ⟨by omega, err_step (by omega) hx2 (of_decide_eq_true hs_1414)⟩
                ·exact rn_ok [([1, 21, 7], [1, 21, 7]), ([0, 21, 7], [0, 21, 7]), ([20, 7], [20, 7]), ([19, 7], [19, 7]), ([0, 18, 7], [0, 18, 7]), ([3, 7], [3, 7]), ([2, 7], [2, 7]), ([1, 7], [1, 7]), ([0, 7], [0, 7]), ([2], [2]), ([1], [1]), ([0], [0])] [] [2, 12, 13, 14] (trivial) (by kernel_rfl)
              ·have q15_141 := hc15_141
               (try simp only [brs] at q15_141)
               exact absurd (err_end (i := i) (by omega) hx2) (by simpa using hv)
            ·have qhs_1413 := hs_1413
             (try simp only [brs] at qhs_1413)
             refine at_B [2, 3, 10] [.std, .std, .retY (.b false) (b16_23 g f d l)] [YldOK Tryd.prog [20, 7] [agF g] (b16_19 g f d l) [4, 6, 21, 7] (fun v1 H1 => v1 = (.b false) ∧ H1 = (b16_23 g f d l))] [(1000000, .any), (2, .ptr [1, 21, 7] 0), (3, .ptr [0, 6, 21, 7] 0), (10, .b true)] (b16_23 g f d l) 6 (by kernel_rfl) ?_ ?_
             ·refine ⟨?_, trivial⟩
              ·refine yld_in [(1000000, .any), (4, .ptr [1, 7] 0), (5, .ptr [2, 7] 0), (6, .ptr [3, 7] 0), (22, .fn (.func 75) [.ptr [0, 18, 7] 0])] 63 [23] (fcode Tryd.f44 [1, 1, 0, 1, 1, 0]) (fcode Tryd.f44 [1, 1, 0, 1, 1, 1]) none (by kernel_rfl) (by kernel_rfl) (fun lp => ?_)
               change AT _ (fcode Tryd.f44 [1, 1, 0, 1, 1, 0]) _ ⟨[(1000000, .any), (23, agF g), (1000000, .any), (4, .ptr [1, 7] 0), (5, .ptr [2, 7] 0), (6, .ptr [3, 7] 0), (22, .fn (.func 75) [.ptr [0, 18, 7] 0])], (b16_19 g f d l), [4, 6, 21, 7], 0⟩
               refine at_Bl [4, 5, 6, 9] [] [] [(1000000, .any), (4, .ptr [1, 7] 0), (5, .ptr [2, 7] 0), (6, .ptr [3, 7] 0), (9, .ptr [0, 4, 6, 21, 7] 0)] (b16_20 g f d l) 2 (by kernel_rfl) ?_ ?_
               ·exact trivial
               refine asg_end [(1000000, .any), (4, .ptr [1, 7] 0), (5, .ptr [2, 7] 0), (6, .ptr [3, 7] 0), (22, .fn (.func 75) [.ptr [0, 18, 7] 0])] 63 [23] (fcode Tryd.f44 [1, 1, 0, 1, 1, 0]) none (by kernel_rfl) (H1 := (b16_18 g f d l)) (by kernel_rfl) ?_
               refine at_block ?_
               refine at_block ?_
               refine at_B [4, 5, 6, 9, 24] [.std, .ret (.b (formedR g))] [PureCall Tryd.prog 71 [agF g] (.b (formedR g))] [(1000000, .any), (4, .ptr [1, 7] 0), (5, .ptr [2, 7] 0), (6, .ptr [3, 7] 0), (9, .ptr [0, 4, 6, 21, 7] 0), (24, .b (!(formedR g)))] (b16_18 g f d l) 6 (by kernel_rfl) ?_ ?_
               ·exact ⟨(c71 g), trivial⟩
               refine at_cond (b := (!(formedR g))) rfl rfl (fun h => ?_) (fun h => ?_)
               ·exact absurd (h.symm.trans hs_1411) (by decide)
               clear h
               refine at_B [4, 5, 6, 9, 28] [] [] [(1000000, .any), (4, .ptr [1, 7] 0), (5, .ptr [2, 7] 0), (6, .ptr [3, 7] 0), (9, .ptr [0, 4, 6, 21, 7] 0), (28, .b ((decide (g.op = (3 : Int))) && ((decide (g.n < (0 : Int))) || (decide ((1000000 : Int) < g.n)))))] (b16_18 g f d l) 20 (by kernel_rfl) ?_ ?_
               ·exact trivial
               refine at_cond (b := ((decide (g.op = (3 : Int))) && ((decide (g.n < (0 : Int))) || (decide ((1000000 : Int) < g.n))))) rfl rfl (fun h => ?_) (fun h => ?_)
               ·exact absurd (h.symm.trans hs_1412) (by decide)
               clear h
               refine at_seq ?_
               refine at_B [5, 6, 9, 42] [.std, .std, .std, .std, .std, .std, .std, .ret (.i (idxF (fcN g.nm) d.fs 0))] [((decide (g.op = (3 : Int))) = true) → PureCall Tryd.prog 57 [agD d, .tv (.str g.nm)] (.i (idxF (fcN g.nm) d.fs 0))] [(1000000, .any), (5, .ptr [2, 7] 0), (6, .ptr [3, 7] 0), (9, .ptr [0, 4, 6, 21, 7] 0), (42, .b ((decide (g.op = (3 : Int))) && (decide ((idxF (fcN g.nm) d.fs 0) < (0 : Int)))))] (b16_18 g f d l) 31 (by kernel_rfl) ?_ ?_
               ·exact ⟨fun hg0 => (c57 d g.nm), trivial⟩
               refine at_mergel (p := [4, 6, 21, 7]) [(1000000, .any), (6, .ptr [3, 7] 0), (42, .b (bif ((decide (g.op = (3 : Int))) && (decide ((idxF (fcN g.nm) d.fs 0) < (0 : Int)))) then ((decide (g.op = (3 : Int))) && (decide ((idxF (fcN g.nm) d.fs 0) < (0 : Int)))) else ((decide (g.op = (4 : Int))) && (!(List.any l (eqR g.nm))))))] [([0, 4, 6, 21, 7], .row ((celF g).map .tv) false), ([0, 6, 21, 7], .row ((celF g).map .tv) false), ([1, 21, 7], .row [.fn (.func 76) [.ptr [0, 21, 7] 0, .ptr [1, 21, 7] 0]] false), ([0, 21, 7], .row [.yl [20, 7]] false), ([20, 7], .loop [(1000000, .any), (4, .ptr [1, 7] 0), (5, .ptr [2, 7] 0), (6, .ptr [3, 7] 0), (22, .fn (.func 75) [.ptr [0, 18, 7] 0])] 63 [23] (fcode Tryd.f44 [1, 1, 0, 1, 1, 0]) (fcode Tryd.f44 [1, 1, 0, 1, 1, 1]) .busy none), ([19, 7], .dfr), ([0, 18, 7], .row ((celF f).map .tv) false), ([3, 7], .row [.i 0] false), ([2, 7], .row [.fn (.func 45) [.ptr [2] 0]] false), ([1, 7], .row ((celD d).map .tv) false), ([0, 7], .row ((celF f).map .tv) false), ([2], .row [.tv (.sli 1 (l.map encStr))] false), ([1], .row ((celD d).map .tv) false), ([0], .row ((celF f).map .tv) false)] 42 ?_ ?_
               ·refine at_cond (b := ((decide (g.op = (3 : Int))) && (decide ((idxF (fcN g.nm) d.fs 0) < (0 : Int))))) rfl rfl (fun hc42_146 => ?_) (fun hc42_146 => ?_)
                ·skip
                 refine at_skip ?_
                 exact gh_merge [6, 42] [[0, 4, 6, 21, 7], [0, 6, 21, 7], [1, 21, 7], [0, 21, 7], [20, 7], [19, 7], [0, 18, 7], [3, 7], [2, 7], [1, 7], [0, 7], [2], [1], [0]] (Eq.trans (b := [(1000000, .any), (6, .ptr [3, 7] 0), (42, .b ((decide (g.op = (3 : Int))) && (decide ((idxF (fcN g.nm) d.fs 0) < (0 : Int)))))]) (by kernel_rfl) (by simp only [hc42_146, cond_true, cond_false]; try rfl)) (by kernel_rfl) (by kernel_rfl)
                ·skip
                 refine at_Bl [6, 42] [.std, .std, .std, .std, .std, .std, .std, .retS (.b (List.any l (eqR g.nm)))] [((decide (g.op = (4 : Int))) = true) → StabCall Tryd.prog 45 [.tv (.str g.nm), .ptr [2] 0] (b16_18 g f d l) (.b (List.any l (eqR g.nm)))] [(1000000, .any), (6, .ptr [3, 7] 0), (42, .b ((decide (g.op = (4 : Int))) && (!(List.any l (eqR g.nm)))))] (b16_18 g f d l) 42 (by kernel_rfl) ?_ ?_
                 ·exact ⟨fun hg0 => StabCall.mono (H := [(b16_3 l)]) (stab_mv (args := [.tv (.str g.nm), .ptr [0] 0]) (H := [(b16_17 l)]) (H2 := [(b16_3 l)]) (q := [50]) [([2], [0])] [([0], [2])] [] [] ((c45 g.nm l) _ _ (fun _ _ h => h)) (by kernel_rfl) (by kernel_rfl) (trivial) (by kernel_rfl) (by kernel_rfl) (trivial)) (sub_cons (by kernel_rfl) sub_nil), trivial⟩
                 exact gh_merge [6, 42] [[0, 4, 6, 21, 7], [0, 6, 21, 7], [1, 21, 7], [0, 21, 7], [20, 7], [19, 7], [0, 18, 7], [3, 7], [2, 7], [1, 7], [0, 7], [2], [1], [0]] (Eq.trans (b := [(1000000, .any), (6, .ptr [3, 7] 0), (42, .b ((decide (g.op = (4 : Int))) && (!(List.any l (eqR g.nm)))))]) (by kernel_rfl) (by simp only [hc42_146, cond_true, cond_false]; try rfl)) (by kernel_rfl) (by kernel_rfl)
               change AT _ _ _ _
               refine at_cond (b := (bif ((decide (g.op = (3 : Int))) && (decide ((idxF (fcN g.nm) d.fs 0) < (0 : Int)))) then ((decide (g.op = (3 : Int))) && (decide ((idxF (fcN g.nm) d.fs 0) < (0 : Int)))) else ((decide (g.op = (4 : Int))) && (!(List.any l (eqR g.nm)))))) rfl rfl (fun h => ?_) (fun h => ?_)
               rotate_left
               ·exact absurd (h.symm.trans hs_1413) (by decide)
               clear h
               refine at_B [6] [] [] [(1000000, .any), (6, .ptr [3, 7] 0)] (b16_28 g f d l) 43 (by kernel_rfl) ?_ ?_
               ·exact trivial
               refine at_ret ?_
               exact round_ret (q := [4, 6, 21, 7]) [[0, 6, 21, 7], [1, 21, 7], [0, 21, 7], [20, 7], [19, 7], [0, 18, 7], [3, 7], [2, 7], [1, 7], [0, 7], [2], [1], [0]] [(1000000, .any), (4, .ptr [1, 7] 0), (5, .ptr [2, 7] 0), (6, .ptr [3, 7] 0), (22, .fn (.func 75) [.ptr [0, 18, 7] 0])] 63 [23] (fcode Tryd.f44 [1, 1, 0, 1, 1, 0]) (fcode Tryd.f44 [1, 1, 0, 1, 1, 1]) .busy none (by kernel_rfl) rfl (by kernel_rfl)
             refine at_cond (b := true) rfl rfl (fun h => ?_) (fun h => ?_)
             rotate_left
             ·cases h
             clear h
             refine at_B [4] [] [] [(1000000, .any), (4, .b false)] (b16_23 g f d l) 7 (by kernel_rfl) ?_ ?_
             ·exact trivial
             refine at_ret ?_
             exact fin_in (.inr rfl) [[1, 21, 7], [0, 21, 7], [20, 7], [19, 7], [0, 18, 7], [3, 7], [2, 7], [1, 7], [0, 7], [2], [1], [0]] (.b false) [([0, 6, 21, 7], .row ((celF g).map .tv) false), ([1, 21, 7], .row [.fn (.func 76) [.ptr [0, 21, 7] 0, .ptr [1, 21, 7] 0]] false), ([0, 21, 7], .row [.yl [20, 7]] false), ([20, 7], .loop [(1000000, .any), (4, .ptr [1, 7] 0), (5, .ptr [2, 7] 0), (6, .ptr [3, 7] 0), (22, .fn (.func 75) [.ptr [0, 18, 7] 0])] 63 [23] (fcode Tryd.f44 [1, 1, 0, 1, 1, 0]) (fcode Tryd.f44 [1, 1, 0, 1, 1, 1]) .done (some .ret)), ([19, 7], .dfr), ([0, 18, 7], .row ((celF f).map .tv) false), ([3, 7], .row [.i 7] false), ([2, 7], .row [.fn (.func 45) [.ptr [2] 0]] false), ([1, 7], .row ((celD d).map .tv) false), ([0, 7], .row ((celF f).map .tv) false), ([2], .row [.tv (.sli 1 (l.map encStr))] false), ([1], .row ((celD d).map .tv) false), ([0], .row ((celF f).map .tv) false)] (by kernel_rfl) rfl (by show keepH _ _ = [([1, 21, 7], .row [.fn (.func 76) [.ptr [0, 21, 7] 0, .ptr [1, 21, 7] 0]] false), ([0, 21, 7], .row [.yl [20, 7]] false), ([20, 7], .loop [(1000000, .any), (4, .ptr [1, 7] 0), (5, .ptr [2, 7] 0), (6, .ptr [3, 7] 0), (22, .fn (.func 75) [.ptr [0, 18, 7] 0])] 63 [23] (fcode Tryd.f44 [1, 1, 0, 1, 1, 0]) (fcode Tryd.f44 [1, 1, 0, 1, 1, 1]) .done (some .ret)), ([19, 7], .dfr), ([0, 18, 7], .row ((celF f).map .tv) false), ([3, 7], .row [.i (errF (oneR d l false) g)] false), ([2, 7], .row [.fn (.func 45) [.ptr [2] 0]] false), ([1, 7], .row ((celD d).map .tv) false), ([0, 7], .row ((celF f).map .tv) false), ([2], .row [.tv (.sli 1 (l.map encStr))] false), ([1], .row ((celD d).map .tv) false), ([0], .row ((celF f).map .tv) false)]; rw [show errF (oneR d l false) g = _ from (err_at (one_7 hs_1411 hs_1412 ((vis_n0 (l := l)).symm.trans hs_1413)) (by decide))]; kernel_rfl)
           ·have qhs_1412 := hs_1412
            (try simp only [brs] at qhs_1412)
            refine at_B [2, 3, 10] [.std, .std, .retY (.b false) (b16_24 g f d l)] [YldOK Tryd.prog [20, 7] [agF g] (b16_19 g f d l) [4, 6, 21, 7] (fun v1 H1 => v1 = (.b false) ∧ H1 = (b16_24 g f d l))] [(1000000, .any), (2, .ptr [1, 21, 7] 0), (3, .ptr [0, 6, 21, 7] 0), (10, .b true)] (b16_24 g f d l) 6 (by kernel_rfl) ?_ ?_
            ·refine ⟨?_, trivial⟩
             ·refine yld_in [(1000000, .any), (4, .ptr [1, 7] 0), (5, .ptr [2, 7] 0), (6, .ptr [3, 7] 0), (22, .fn (.func 75) [.ptr [0, 18, 7] 0])] 63 [23] (fcode Tryd.f44 [1, 1, 0, 1, 1, 0]) (fcode Tryd.f44 [1, 1, 0, 1, 1, 1]) none (by kernel_rfl) (by kernel_rfl) (fun lp => ?_)
              change AT _ (fcode Tryd.f44 [1, 1, 0, 1, 1, 0]) _ ⟨[(1000000, .any), (23, agF g), (1000000, .any), (4, .ptr [1, 7] 0), (5, .ptr [2, 7] 0), (6, .ptr [3, 7] 0), (22, .fn (.func 75) [.ptr [0, 18, 7] 0])], (b16_19 g f d l), [4, 6, 21, 7], 0⟩
              refine at_Bl [4, 5, 6, 9] [] [] [(1000000, .any), (4, .ptr [1, 7] 0), (5, .ptr [2, 7] 0), (6, .ptr [3, 7] 0), (9, .ptr [0, 4, 6, 21, 7] 0)] (b16_20 g f d l) 2 (by kernel_rfl) ?_ ?_
              ·exact trivial
              refine asg_end [(1000000, .any), (4, .ptr [1, 7] 0), (5, .ptr [2, 7] 0), (6, .ptr [3, 7] 0), (22, .fn (.func 75) [.ptr [0, 18, 7] 0])] 63 [23] (fcode Tryd.f44 [1, 1, 0, 1, 1, 0]) none (by kernel_rfl) (H1 := (b16_18 g f d l)) (by kernel_rfl) ?_
              refine at_block ?_
              refine at_block ?_
              refine at_B [4, 5, 6, 9, 24] [.std, .ret (.b (formedR g))] [PureCall Tryd.prog 71 [agF g] (.b (formedR g))] [(1000000, .any), (4, .ptr [1, 7] 0), (5, .ptr [2, 7] 0), (6, .ptr [3, 7] 0), (9, .ptr [0, 4, 6, 21, 7] 0), (24, .b (!(formedR g)))] (b16_18 g f d l) 6 (by kernel_rfl) ?_ ?_
              ·exact ⟨(c71 g), trivial⟩
              refine at_cond (b := (!(formedR g))) rfl rfl (fun h => ?_) (fun h => ?_)
              ·exact absurd (h.symm.trans hs_1411) (by decide)
              clear h
              refine at_B [4, 5, 6, 9, 28] [] [] [(1000000, .any), (4, .ptr [1, 7] 0), (5, .ptr [2, 7] 0), (6, .ptr [3, 7] 0), (9, .ptr [0, 4, 6, 21, 7] 0), (28, .b ((decide (g.op = (3 : Int))) && ((decide (g.n < (0 : Int))) || (decide ((1000000 : Int) < g.n)))))] (b16_18 g f d l) 20 (by kernel_rfl) ?_ ?_
              ·exact trivial
              refine at_cond (b := ((decide (g.op = (3 : Int))) && ((decide (g.n < (0 : Int))) || (decide ((1000000 : Int) < g.n))))) rfl rfl (fun h => ?_) (fun h => ?_)
              rotate_left
              ·exact absurd (h.symm.trans hs_1412) (by decide)
              clear h
              refine at_B [6] [] [] [(1000000, .any), (6, .ptr [3, 7] 0)] (b16_29 g f d l) 21 (by kernel_rfl) ?_ ?_
              ·exact trivial
              refine at_ret ?_
              exact round_ret (q := [4, 6, 21, 7]) [[0, 6, 21, 7], [1, 21, 7], [0, 21, 7], [20, 7], [19, 7], [0, 18, 7], [3, 7], [2, 7], [1, 7], [0, 7], [2], [1], [0]] [(1000000, .any), (4, .ptr [1, 7] 0), (5, .ptr [2, 7] 0), (6, .ptr [3, 7] 0), (22, .fn (.func 75) [.ptr [0, 18, 7] 0])] 63 [23] (fcode Tryd.f44 [1, 1, 0, 1, 1, 0]) (fcode Tryd.f44 [1, 1, 0, 1, 1, 1]) .busy none (by kernel_rfl) rfl (by kernel_rfl)
            refine at_cond (b := true) rfl rfl (fun h => ?_) (fun h => ?_)
            rotate_left
            ·cases h
            clear h
            refine at_B [4] [] [] [(1000000, .any), (4, .b false)] (b16_24 g f d l) 7 (by kernel_rfl) ?_ ?_
            ·exact trivial
            refine at_ret ?_
            exact fin_in (.inr rfl) [[1, 21, 7], [0, 21, 7], [20, 7], [19, 7], [0, 18, 7], [3, 7], [2, 7], [1, 7], [0, 7], [2], [1], [0]] (.b false) [([0, 6, 21, 7], .row ((celF g).map .tv) false), ([1, 21, 7], .row [.fn (.func 76) [.ptr [0, 21, 7] 0, .ptr [1, 21, 7] 0]] false), ([0, 21, 7], .row [.yl [20, 7]] false), ([20, 7], .loop [(1000000, .any), (4, .ptr [1, 7] 0), (5, .ptr [2, 7] 0), (6, .ptr [3, 7] 0), (22, .fn (.func 75) [.ptr [0, 18, 7] 0])] 63 [23] (fcode Tryd.f44 [1, 1, 0, 1, 1, 0]) (fcode Tryd.f44 [1, 1, 0, 1, 1, 1]) .done (some .ret)), ([19, 7], .dfr), ([0, 18, 7], .row ((celF f).map .tv) false), ([3, 7], .row [.i 10] false), ([2, 7], .row [.fn (.func 45) [.ptr [2] 0]] false), ([1, 7], .row ((celD d).map .tv) false), ([0, 7], .row ((celF f).map .tv) false), ([2], .row [.tv (.sli 1 (l.map encStr))] false), ([1], .row ((celD d).map .tv) false), ([0], .row ((celF f).map .tv) false)] (by kernel_rfl) rfl (by show keepH _ _ = [([1, 21, 7], .row [.fn (.func 76) [.ptr [0, 21, 7] 0, .ptr [1, 21, 7] 0]] false), ([0, 21, 7], .row [.yl [20, 7]] false), ([20, 7], .loop [(1000000, .any), (4, .ptr [1, 7] 0), (5, .ptr [2, 7] 0), (6, .ptr [3, 7] 0), (22, .fn (.func 75) [.ptr [0, 18, 7] 0])] 63 [23] (fcode Tryd.f44 [1, 1, 0, 1, 1, 0]) (fcode Tryd.f44 [1, 1, 0, 1, 1, 1]) .done (some .ret)), ([19, 7], .dfr), ([0, 18, 7], .row ((celF f).map .tv) false), ([3, 7], .row [.i (errF (oneR d l false) g)] false), ([2, 7], .row [.fn (.func 45) [.ptr [2] 0]] false), ([1, 7], .row ((celD d).map .tv) false), ([0, 7], .row ((celF f).map .tv) false), ([2], .row [.tv (.sli 1 (l.map encStr))] false), ([1], .row ((celD d).map .tv) false), ([0], .row ((celF f).map .tv) false)]; rw [show errF (oneR d l false) g = _ from (err_at (one_10 hs_1411 hs_1412) (by decide))]; kernel_rfl)
          ·have qhs_1411 := hs_1411
           (try simp only [brs] at qhs_1411)
           refine at_B [2, 3, 10] [.std, .std, .retY (.b false) (b16_25 g f d l)] [YldOK Tryd.prog [20, 7] [agF g] (b16_19 g f d l) [4, 6, 21, 7] (fun v1 H1 => v1 = (.b false) ∧ H1 = (b16_25 g f d l))] [(1000000, .any), (2, .ptr [1, 21, 7] 0), (3, .ptr [0, 6, 21, 7] 0), (10, .b true)] (b16_25 g f d l) 6 (by kernel_rfl) ?_ ?_
           ·refine ⟨?_, trivial⟩
            ·refine yld_in [(1000000, .any), (4, .ptr [1, 7] 0), (5, .ptr [2, 7] 0), (6, .ptr [3, 7] 0), (22, .fn (.func 75) [.ptr [0, 18, 7] 0])] 63 [23] (fcode Tryd.f44 [1, 1, 0, 1, 1, 0]) (fcode Tryd.f44 [1, 1, 0, 1, 1, 1]) none (by kernel_rfl) (by kernel_rfl) (fun lp => ?_)
             change AT _ (fcode Tryd.f44 [1, 1, 0, 1, 1, 0]) _ ⟨[(1000000, .any), (23, agF g), (1000000, .any), (4, .ptr [1, 7] 0), (5, .ptr [2, 7] 0), (6, .ptr [3, 7] 0), (22, .fn (.func 75) [.ptr [0, 18, 7] 0])], (b16_19 g f d l), [4, 6, 21, 7], 0⟩
             refine at_Bl [4, 5, 6, 9] [] [] [(1000000, .any), (4, .ptr [1, 7] 0), (5, .ptr [2, 7] 0), (6, .ptr [3, 7] 0), (9, .ptr [0, 4, 6, 21, 7] 0)] (b16_20 g f d l) 2 (by kernel_rfl) ?_ ?_
             ·exact trivial
             refine asg_end [(1000000, .any), (4, .ptr [1, 7] 0), (5, .ptr [2, 7] 0), (6, .ptr [3, 7] 0), (22, .fn (.func 75) [.ptr [0, 18, 7] 0])] 63 [23] (fcode Tryd.f44 [1, 1, 0, 1, 1, 0]) none (by kernel_rfl) (H1 := (b16_18 g f d l)) (by kernel_rfl) ?_
             refine at_block ?_
             refine at_block ?_
             refine at_B [4, 5, 6, 9, 24] [.std, .ret (.b (formedR g))] [PureCall Tryd.prog 71 [agF g] (.b (formedR g))] [(1000000, .any), (4, .ptr [1, 7] 0), (5, .ptr [2, 7] 0), (6, .ptr [3, 7] 0), (9, .ptr [0, 4, 6, 21, 7] 0), (24, .b (!(formedR g)))] (b16_18 g f d l) 6 (by kernel_rfl) ?_ ?_
             ·exact ⟨(c71 g), trivial⟩
             refine at_cond (b := (!(formedR g))) rfl rfl (fun h => ?_) (fun h => ?_)
             rotate_left
             ·exact absurd (h.symm.trans hs_1411) (by decide)
             clear h
             refine at_B [6] [] [] [(1000000, .any), (6, .ptr [3, 7] 0)] (b16_30 g f d l) 7 (by kernel_rfl) ?_ ?_
             ·exact trivial
             refine at_ret ?_
             exact round_ret (q := [4, 6, 21, 7]) [[0, 6, 21, 7], [1, 21, 7], [0, 21, 7], [20, 7], [19, 7], [0, 18, 7], [3, 7], [2, 7], [1, 7], [0, 7], [2], [1], [0]] [(1000000, .any), (4, .ptr [1, 7] 0), (5, .ptr [2, 7] 0), (6, .ptr [3, 7] 0), (22, .fn (.func 75) [.ptr [0, 18, 7] 0])] 63 [23] (fcode Tryd.f44 [1, 1, 0, 1, 1, 0]) (fcode Tryd.f44 [1, 1, 0, 1, 1, 1]) .busy none (by kernel_rfl) rfl (by kernel_rfl)
           refine at_cond (b := true) rfl rfl (fun h => ?_) (fun h => ?_)
           rotate_left
           ·cases h
           clear h
           refine at_B [4] [] [] [(1000000, .any), (4, .b false)] (b16_25 g f d l) 7 (by kernel_rfl) ?_ ?_
           ·exact trivial
           refine at_ret ?_
           exact fin_in (.inr rfl) [[1, 21, 7], [0, 21, 7], [20, 7], [19, 7], [0, 18, 7], [3, 7], [2, 7], [1, 7], [0, 7], [2], [1], [0]] (.b false) [([0, 6, 21, 7], .row ((celF g).map .tv) false), ([1, 21, 7], .row [.fn (.func 76) [.ptr [0, 21, 7] 0, .ptr [1, 21, 7] 0]] false), ([0, 21, 7], .row [.yl [20, 7]] false), ([20, 7], .loop [(1000000, .any), (4, .ptr [1, 7] 0), (5, .ptr [2, 7] 0), (6, .ptr [3, 7] 0), (22, .fn (.func 75) [.ptr [0, 18, 7] 0])] 63 [23] (fcode Tryd.f44 [1, 1, 0, 1, 1, 0]) (fcode Tryd.f44 [1, 1, 0, 1, 1, 1]) .done (some .ret)), ([19, 7], .dfr), ([0, 18, 7], .row ((celF f).map .tv) false), ([3, 7], .row [.i 1] false), ([2, 7], .row [.fn (.func 45) [.ptr [2] 0]] false), ([1, 7], .row ((celD d).map .tv) false), ([0, 7], .row ((celF f).map .tv) false), ([2], .row [.tv (.sli 1 (l.map encStr))] false), ([1], .row ((celD d).map .tv) false), ([0], .row ((celF f).map .tv) false)] (by kernel_rfl) rfl (by show keepH _ _ = [([1, 21, 7], .row [.fn (.func 76) [.ptr [0, 21, 7] 0, .ptr [1, 21, 7] 0]] false), ([0, 21, 7], .row [.yl [20, 7]] false), ([20, 7], .loop [(1000000, .any), (4, .ptr [1, 7] 0), (5, .ptr [2, 7] 0), (6, .ptr [3, 7] 0), (22, .fn (.func 75) [.ptr [0, 18, 7] 0])] 63 [23] (fcode Tryd.f44 [1, 1, 0, 1, 1, 0]) (fcode Tryd.f44 [1, 1, 0, 1, 1, 1]) .done (some .ret)), ([19, 7], .dfr), ([0, 18, 7], .row ((celF f).map .tv) false), ([3, 7], .row [.i (errF (oneR d l false) g)] false), ([2, 7], .row [.fn (.func 45) [.ptr [2] 0]] false), ([1, 7], .row ((celD d).map .tv) false), ([0, 7], .row ((celF f).map .tv) false), ([2], .row [.tv (.sli 1 (l.map encStr))] false), ([1], .row ((celD d).map .tv) false), ([0], .row ((celF f).map .tv) false)]; rw [show errF (oneR d l false) g = _ from (err_at (one_1 hs_1411) (by decide))]; kernel_rfl)
        exact (vis f).2 hs2
      exact fin_in (.inl rfl) [[20, 7], [19, 7], [0, 18, 7], [3, 7], [2, 7], [1, 7], [0, 7], [2], [1], [0]] (.tup []) (b16_37 f d l) (by kernel_rfl) rfl (by kernel_rfl)
     exact fin_in (.inr rfl) [[2], [1], [0]] (.i (errF (oneR d l false) f)) [([19, 7], .gone), (b16_6 f), (b16_13 d l f), b16_5, ([1, 7], .row ((celD d).map .tv) false), ([0, 7], .row ((celF f).map .tv) false), (b16_3 l), ([1], .row ((celD d).map .tv) false), ([0], .row ((celF f).map .tv) false)] (by kernel_rfl) rfl (by kernel_rfl)
   refine at_ret ?_
   refine fin0 (.inr rfl) (.i (errF (oneR d l false) f)) (b16_26 l d f) (.i (errF (oneR d l false) f)) (H2 := (b16_26 l d f)) (by kernel_rfl) (by kernel_rfl) ?_
   refine Le.of_eq ?_
   first | (rw [checkR, largeR, hs1, cond_false, of_decide_eq_true hs2]; done) | (rw [checkR, largeR, hs1]; rfl)
  ·have qhs2 := hs2
   (try simp only [brs] at qhs2)
   refine at_B [6] [.std, .std, .std, .retH (.i 0) (b16_26 l d f)] [CallOK Tryd.prog 44 [agF f, agD d, .fn (.func 45) [.ptr [2] 0]] (b16_26 l d f) [7] (fun v1 H1 => v1 = (.i 0) ∧ H1 = (b16_26 l d f))] [(1000000, .any), (6, .i 0)] (b16_26 l d f) 9 (by kernel_rfl) ?_ ?_
   ·refine ⟨?_, trivial⟩
    ·refine call_in (fn := Tryd.f44) [.cell 6 36] Tryd.func44 rfl (by kernel_rfl) rfl ?_
     change AT _ _ _ ⟨[(0, agF f), (1, agD d), (2, .fn (.func 45) [.ptr [2] 0])], (b16_26 l d f), [7], 0⟩
     refine at_B [3, 4, 5, 6] [] [] [(1000000, .any), (3, .ptr [0, 7] 0), (4, .ptr [1, 7] 0), (5, .ptr [2, 7] 0), (6, .ptr [3, 7] 0)] (b16_35 d f l) 4 (by kernel_rfl) ?_ ?_
     ·exact trivial
     refine at_seq ?_
     refine at_B [3, 4, 5, 6, 7, 8] [.std, .ret (.tup [.i ((szF f).1), .i ((szF f).2)])] [PureCall Tryd.prog 14 [agF f] (.tup [.i ((szF f).1), .i ((szF f).2)])] [(1000000, .any), (3, .ptr [0, 7] 0), (4, .ptr [1, 7] 0), (5, .ptr [2, 7] 0), (6, .ptr [3, 7] 0), (7, .i ((szF f).1)), (8, .i ((szF f).2))] (b16_35 d f l) 11 (by kernel_rfl) ?_ ?_
     ·exact ⟨(c14 f), trivial⟩
     refine at_B [3, 4, 5, 6, 20] [] [] [(1000000, .any), (3, .ptr [0, 7] 0), (4, .ptr [1, 7] 0), (5, .ptr [2, 7] 0), (6, .ptr [3, 7] 0), (20, .b ((decide ((200 : Int) < (szF f).1)) || (decide ((20 : Int) < (szF f).2))))] (b16_35 d f l) 17 (by kernel_rfl) ?_ ?_
     ·exact trivial
     refine at_cond (b := ((decide ((200 : Int) < (szF f).1)) || (decide ((20 : Int) < (szF f).2)))) rfl rfl (fun h => ?_) (fun h => ?_)
     ·exact absurd (h.symm.trans hs1) (by decide)
     clear h
     refine at_skip ?_
     change AT _ _ _ _
     refine at_seq ?_
     refine at_B [4, 5, 6, 22] [.std, .retH (.fn (.func 75) [.ptr [0, 18, 7] 0]) (b16_22 f d l)] [CallOK Tryd.prog 49 [agF f] (b16_35 d f l) [18, 7] (fun v1 H1 => v1 = (.fn (.func 75) [.ptr [0, 18, 7] 0]) ∧ H1 = (b16_22 f d l))] [(1000000, .any), (4, .ptr [1, 7] 0), (5, .ptr [2, 7] 0), (6, .ptr [3, 7] 0), (22, .fn (.func 75) [.ptr [0, 18, 7] 0])] (b16_22 f d l) 19 (by kernel_rfl) ?_ ?_
     ·refine ⟨?_, trivial⟩
      ·refine call_in (fn := Tryd.f49) [.tmp 2] Tryd.func49 rfl (by kernel_rfl) rfl ?_
       change AT _ _ _ ⟨[(0, agF f)], (b16_35 d f l), [18, 7], 0⟩
       refine at_B [1] [] [] [(1000000, .any), (1, .ptr [0, 18, 7] 0)] (b16_22 f d l) 2 (by kernel_rfl) ?_ ?_
       ·exact trivial
       refine at_B [2] [] [] [(1000000, .any), (2, .fn (.func 75) [.ptr [0, 18, 7] 0])] (b16_22 f d l) 4 (by kernel_rfl) ?_ ?_
       ·exact trivial
       refine at_ret ?_
       exact fin_in (.inr rfl) [[0, 18, 7], [3, 7], [2, 7], [1, 7], [0, 7], [2], [1], [0]] (.fn (.func 75) [.ptr [0, 18, 7] 0]) (b16_22 f d l) (by kernel_rfl) rfl (by kernel_rfl)
     refine at_block ?_
     refine at_keepB [4, 5, 6, 22] [(1000000, .any), (4, .ptr [1, 7] 0), (5, .ptr [2, 7] 0), (6, .ptr [3, 7] 0), (22, .fn (.func 75) [.ptr [0, 18, 7] 0])] (by kernel_rfl) ?_
     refine at_rf 75 [.ptr [0, 18, 7] 0] (.tup []) (b16_38 f d l) [(1000000, .any), (4, .ptr [1, 7] 0), (5, .ptr [2, 7] 0), (6, .ptr [3, 7] 0), (22, .fn (.func 75) [.ptr [0, 18, 7] 0])] 63 [23] (fcode Tryd.f44 [1, 1, 0, 1, 1, 0]) (fcode Tryd.f44 [1, 1, 0, 1, 1, 1]) [4, 5, 6, 22] [[19, 7], [0, 18, 7], [3, 7], [2, 7], [1, 7], [0, 7], [2], [1], [0]] [(1000000, .ds [.ptr [19, 7] 0]), (4, .ptr [1, 7] 0), (5, .ptr [2, 7] 0), (6, .ptr [3, 7] 0), (22, .fn (.func 75) [.ptr [0, 18, 7] 0])] (b16_33 f d l) (by kernel_rfl) rfl (by kernel_rfl) ?_ (by kernel_rfl) (by kernel_rfl) rfl (by kernel_rfl) ?_
     ·refine call_in (fn := Tryd.f75) [] Tryd.func75 rfl (by kernel_rfl) rfl ?_
      change AT _ _ _ ⟨[(0, .yl [20, 7]), (1, .ptr [0, 18, 7] 0)], (b16_38 f d l), [21, 7], 0⟩
      refine at_B [1, 2] [] [] [(1000000, .any), (1, .ptr [0, 18, 7] 0), (2, .ptr [0, 21, 7] 0)] (b16_31 f d l) 1 (by kernel_rfl) ?_ ?_
      ·exact trivial
      refine at_B [1, 2, 3] [] [] [(1000000, .any), (1, .ptr [0, 18, 7] 0), (2, .ptr [0, 21, 7] 0), (3, .ptr [1, 21, 7] 0)] (b16_27 f d l) 2 (by kernel_rfl) ?_ ?_
      ·exact trivial
      refine at_B [1, 3] [] [] [(1000000, .any), (1, .ptr [0, 18, 7] 0), (3, .ptr [1, 21, 7] 0)] (b16_34 f d l) 4 (by kernel_rfl) ?_ ?_
      ·exact trivial
      refine at_Bl [] [.std, .std, .retH (.b true) (b16_34 f d l)] [CallOK Tryd.prog 76 [agF f, .ptr [0, 21, 7] 0, .ptr [1, 21, 7] 0] (b16_34 f d l) [6, 21, 7] (fun v1 H1 => v1 = (.b true) ∧ H1 = (b16_34 f d l))] [(1000000, .any)] (b16_34 f d l) 7 (by kernel_rfl) ?_ ?_
      ·refine ⟨?_, trivial⟩
       ·have vis : ∀ g : Fm, ((decide ((errF (oneR d l false) g) = (0 : Int))) = true → CallOK Tryd.prog 76 [agF g, .ptr [0, 21, 7] 0, .ptr [1, 21, 7] 0] (b16_34 f d l) [6, 21, 7] (fun v1 H1 => v1 = (.b true) ∧ H1 = (b16_34 f d l))) ∧ ((decide ((errF (oneR d l false) g) = (0 : Int))) = false → CallOK Tryd.prog 76 [agF g, .ptr [0, 21, 7] 0, .ptr [1, 21, 7] 0] (b16_34 f d l) [6, 21, 7] (fun v1 H1 => v1 = (.b false) ∧ H1 = (b16_39 f d l g))) := by
         refine Fm.ind (fun g ih => ⟨fun hv => ?_, fun hv => ?_⟩)
         ·have hz := errF_zero (of_decide_eq_true hv)
          have ho := one_zero hz.1
          obtain ⟨hk0, hk1, hk2⟩ := vis_known0 ho
          refine call_in (fn := Tryd.f76) [.tmp 4] Tryd.func76 rfl (by kernel_rfl) rfl ?_
          change AT _ _ _ ⟨[(0, agF g), (1, .ptr [0, 21, 7] 0), (2, .ptr [1, 21, 7] 0)], (b16_34 f d l), [6, 21, 7], 0⟩
          refine at_B [1, 2, 3] [] [] [(1000000, .any), (1, .ptr [0, 21, 7] 0), (2, .ptr [1, 21, 7] 0), (3, .ptr [0, 6, 21, 7] 0)] (b16_19 g f d l) 2 (by kernel_rfl) ?_ ?_
          ·exact trivial
          refine at_seq ?_
          refine at_B [2, 3, 10] [.std, .std, .retY (.b true) (b16_19 g f d l)] [YldOK Tryd.prog [20, 7] [agF g] (b16_19 g f d l) [4, 6, 21, 7] (fun v1 H1 => v1 = (.b true) ∧ H1 = (b16_19 g f d l))] [(1000000, .any), (2, .ptr [1, 21, 7] 0), (3, .ptr [0, 6, 21, 7] 0), (10, .b false)] (b16_19 g f d l) 6 (by kernel_rfl) ?_ ?_
          ·refine ⟨?_, trivial⟩
           ·refine yld_in [(1000000, .any), (4, .ptr [1, 7] 0), (5, .ptr [2, 7] 0), (6, .ptr [3, 7] 0), (22, .fn (.func 75) [.ptr [0, 18, 7] 0])] 63 [23] (fcode Tryd.f44 [1, 1, 0, 1, 1, 0]) (fcode Tryd.f44 [1, 1, 0, 1, 1, 1]) none (by kernel_rfl) (by kernel_rfl) (fun lp => ?_)
            change AT _ (fcode Tryd.f44 [1, 1, 0, 1, 1, 0]) _ ⟨[(1000000, .any), (23, agF g), (1000000, .any), (4, .ptr [1, 7] 0), (5, .ptr [2, 7] 0), (6, .ptr [3, 7] 0), (22, .fn (.func 75) [.ptr [0, 18, 7] 0])], (b16_19 g f d l), [4, 6, 21, 7], 0⟩
            refine at_Bl [4, 5, 6, 9] [] [] [(1000000, .any), (4, .ptr [1, 7] 0), (5, .ptr [2, 7] 0), (6, .ptr [3, 7] 0), (9, .ptr [0, 4, 6, 21, 7] 0)] (b16_20 g f d l) 2 (by kernel_rfl) ?_ ?_
            ·exact trivial
            refine asg_end [(1000000, .any), (4, .ptr [1, 7] 0), (5, .ptr [2, 7] 0), (6, .ptr [3, 7] 0), (22, .fn (.func 75) [.ptr [0, 18, 7] 0])] 63 [23] (fcode Tryd.f44 [1, 1, 0, 1, 1, 0]) none (by kernel_rfl) (H1 := (b16_18 g f d l)) (by kernel_rfl) ?_
            refine at_block ?_
            refine at_block ?_
            refine at_B [4, 5, 6, 9, 24] [.std, .ret (.b (formedR g))] [PureCall Tryd.prog 71 [agF g] (.b (formedR g))] [(1000000, .any), (4, .ptr [1, 7] 0), (5, .ptr [2, 7] 0), (6, .ptr [3, 7] 0), (9, .ptr [0, 4, 6, 21, 7] 0), (24, .b (!(formedR g)))] (b16_18 g f d l) 6 (by kernel_rfl) ?_ ?_
            ·exact ⟨(c71 g), trivial⟩
            refine at_cond (b := (!(formedR g))) rfl rfl (fun h => ?_) (fun h => ?_)
            ·exact absurd (h.symm.trans hk0) (by decide)
            clear h
            refine at_B [4, 5, 6, 9, 28] [] [] [(1000000, .any), (4, .ptr [1, 7] 0), (5, .ptr [2, 7] 0), (6, .ptr [3, 7] 0), (9, .ptr [0, 4, 6, 21, 7] 0), (28, .b ((decide (g.op = (3 : Int))) && ((decide (g.n < (0 : Int))) || (decide ((1000000 : Int) < g.n)))))] (b16_18 g f d l) 20 (by kernel_rfl) ?_ ?_
            ·exact trivial
            refine at_cond (b := ((decide (g.op = (3 : Int))) && ((decide (g.n < (0 : Int))) || (decide ((1000000 : Int) < g.n))))) rfl rfl (fun h => ?_) (fun h => ?_)
            ·exact absurd (h.symm.trans hk1) (by decide)
            clear h
            refine at_seq ?_
            refine at_B [5, 6, 9, 42] [.std, .std, .std, .std, .std, .std, .std, .ret (.i (idxF (fcN g.nm) d.fs 0))] [((decide (g.op = (3 : Int))) = true) → PureCall Tryd.prog 57 [agD d, .tv (.str g.nm)] (.i (idxF (fcN g.nm) d.fs 0))] [(1000000, .any), (5, .ptr [2, 7] 0), (6, .ptr [3, 7] 0), (9, .ptr [0, 4, 6, 21, 7] 0), (42, .b ((decide (g.op = (3 : Int))) && (decide ((idxF (fcN g.nm) d.fs 0) < (0 : Int)))))] (b16_18 g f d l) 31 (by kernel_rfl) ?_ ?_
            ·exact ⟨fun hg0 => (c57 d g.nm), trivial⟩
            refine at_mergel (p := [4, 6, 21, 7]) [(1000000, .any), (6, .ptr [3, 7] 0), (42, .b (bif ((decide (g.op = (3 : Int))) && (decide ((idxF (fcN g.nm) d.fs 0) < (0 : Int)))) then ((decide (g.op = (3 : Int))) && (decide ((idxF (fcN g.nm) d.fs 0) < (0 : Int)))) else ((decide (g.op = (4 : Int))) && (!(List.any l (eqR g.nm))))))] [([0, 4, 6, 21, 7], .row ((celF g).map .tv) false), ([0, 6, 21, 7], .row ((celF g).map .tv) false), ([1, 21, 7], .row [.fn (.func 76) [.ptr [0, 21, 7] 0, .ptr [1, 21, 7] 0]] false), ([0, 21, 7], .row [.yl [20, 7]] false), ([20, 7], .loop [(1000000, .any), (4, .ptr [1, 7] 0), (5, .ptr [2, 7] 0), (6, .ptr [3, 7] 0), (22, .fn (.func 75) [.ptr [0, 18, 7] 0])] 63 [23] (fcode Tryd.f44 [1, 1, 0, 1, 1, 0]) (fcode Tryd.f44 [1, 1, 0, 1, 1, 1]) .busy none), ([19, 7], .dfr), ([0, 18, 7], .row ((celF f).map .tv) false), ([3, 7], .row [.i 0] false), ([2, 7], .row [.fn (.func 45) [.ptr [2] 0]] false), ([1, 7], .row ((celD d).map .tv) false), ([0, 7], .row ((celF f).map .tv) false), ([2], .row [.tv (.sli 1 (l.map encStr))] false), ([1], .row ((celD d).map .tv) false), ([0], .row ((celF f).map .tv) false)] 42 ?_ ?_
            ·refine at_cond (b := ((decide (g.op = (3 : Int))) && (decide ((idxF (fcN g.nm) d.fs 0) < (0 : Int))))) rfl rfl (fun hc42_153 => ?_) (fun hc42_153 => ?_)
             ·skip
              refine at_skip ?_
              exact gh_merge [6, 42] [[0, 4, 6, 21, 7], [0, 6, 21, 7], [1, 21, 7], [0, 21, 7], [20, 7], [19, 7], [0, 18, 7], [3, 7], [2, 7], [1, 7], [0, 7], [2], [1], [0]] (Eq.trans (b := [(1000000, .any), (6, .ptr [3, 7] 0), (42, .b ((decide (g.op = (3 : Int))) && (decide ((idxF (fcN g.nm) d.fs 0) < (0 : Int)))))]) (by kernel_rfl) (by simp only [hc42_153, cond_true, cond_false]; try rfl)) (by kernel_rfl) (by kernel_rfl)
             ·skip
              refine at_Bl [6, 42] [.std, .std, .std, .std, .std, .std, .std, .retS (.b (List.any l (eqR g.nm)))] [((decide (g.op = (4 : Int))) = true) → StabCall Tryd.prog 45 [.tv (.str g.nm), .ptr [2] 0] (b16_18 g f d l) (.b (List.any l (eqR g.nm)))] [(1000000, .any), (6, .ptr [3, 7] 0), (42, .b ((decide (g.op = (4 : Int))) && (!(List.any l (eqR g.nm)))))] (b16_18 g f d l) 42 (by kernel_rfl) ?_ ?_
              ·exact ⟨fun hg0 => StabCall.mono (H := [(b16_3 l)]) (stab_mv (args := [.tv (.str g.nm), .ptr [0] 0]) (H := [(b16_17 l)]) (H2 := [(b16_3 l)]) (q := [50]) [([2], [0])] [([0], [2])] [] [] ((c45 g.nm l) _ _ (fun _ _ h => h)) (by kernel_rfl) (by kernel_rfl) (trivial) (by kernel_rfl) (by kernel_rfl) (trivial)) (sub_cons (by kernel_rfl) sub_nil), trivial⟩
              exact gh_merge [6, 42] [[0, 4, 6, 21, 7], [0, 6, 21, 7], [1, 21, 7], [0, 21, 7], [20, 7], [19, 7], [0, 18, 7], [3, 7], [2, 7], [1, 7], [0, 7], [2], [1], [0]] (Eq.trans (b := [(1000000, .any), (6, .ptr [3, 7] 0), (42, .b ((decide (g.op = (4 : Int))) && (!(List.any l (eqR g.nm)))))]) (by kernel_rfl) (by simp only [hc42_153, cond_true, cond_false]; try rfl)) (by kernel_rfl) (by kernel_rfl)
            change AT _ _ _ _
            refine at_cond (b := (bif ((decide (g.op = (3 : Int))) && (decide ((idxF (fcN g.nm) d.fs 0) < (0 : Int)))) then ((decide (g.op = (3 : Int))) && (decide ((idxF (fcN g.nm) d.fs 0) < (0 : Int)))) else ((decide (g.op = (4 : Int))) && (!(List.any l (eqR g.nm)))))) rfl rfl (fun h => ?_) (fun h => ?_)
            ·exact absurd (h.symm.trans hk2) (by decide)
            clear h
            refine at_skip ?_
            exact round_end (q := [4, 6, 21, 7]) [[0, 6, 21, 7], [1, 21, 7], [0, 21, 7], [20, 7], [19, 7], [0, 18, 7], [3, 7], [2, 7], [1, 7], [0, 7], [2], [1], [0]] [(1000000, .any), (4, .ptr [1, 7] 0), (5, .ptr [2, 7] 0), (6, .ptr [3, 7] 0), (22, .fn (.func 75) [.ptr [0, 18, 7] 0])] 63 [23] (fcode Tryd.f44 [1, 1, 0, 1, 1, 0]) (fcode Tryd.f44 [1, 1, 0, 1, 1, 1]) .busy none (by kernel_rfl) rfl (by kernel_rfl)
          refine at_cond (b := false) rfl rfl (fun h => ?_) (fun h => ?_)
          ·cases h
          clear h
          refine at_skip ?_
          change AT _ _ _ _
          refine at_seq ?_
          refine at_B [2, 12, 13, 14] [] [] [(1000000, .any), (2, .ptr [1, 21, 7] 0), (12, .tv (.sli 5 (g.ks.map encF))), (13, .i (((g.ks.map encF).length : Nat) : Int)), (14, .i 0)] (b16_19 g f d l) 10 (by kernel_rfl) ?_ ?_
          ·exact trivial
          refine at_block ?_
          refine at_len 12 rfl (fun hlen => ?_)
          refine at_loopR (X := Nat) 0 (fun (i : Nat) => [(1000000, .any), (2, .ptr [1, 21, 7] 0), (12, .tv (.sli 5 (g.ks.map encF))), (13, .i (((g.ks.map encF).length : Nat) : Int)), (14, .i ((i : Nat) : Int))]) (fun (i : Nat) => (b16_34 f d l)) (fun (i : Nat) => i ≤ g.ks.length) (fun (i : Nat) => g.ks.length - i) 0 ?_ ?_ ?_
          ·exact Nat.zero_le _
          ·exact rn_ok [([1, 21, 7], [1, 21, 7]), ([0, 21, 7], [0, 21, 7]), ([20, 7], [20, 7]), ([19, 7], [19, 7]), ([0, 18, 7], [0, 18, 7]), ([3, 7], [3, 7]), ([2, 7], [2, 7]), ([1, 7], [1, 7]), ([0, 7], [0, 7]), ([2], [2]), ([1], [1]), ([0], [0])] [] [2, 12, 13, 14] (trivial) (by kernel_rfl)
          ·intro i hinv
           have hx1 := hinv
           refine at_B [2, 12, 13, 14, 15] [] [] [(1000000, .any), (2, .ptr [1, 21, 7] 0), (12, .tv (.sli 5 (g.ks.map encF))), (13, .i (((g.ks.map encF).length : Nat) : Int)), (14, .i ((i : Nat) : Int)), (15, .b (decide (((i : Nat) : Int) < (((g.ks.map encF).length : Nat) : Int))))] (b16_34 f d l) 1 (by kernel_rfl) ?_ ?_
           ·exact trivial
           refine at_seq ?_
           refine at_cond (b := (decide (((i : Nat) : Int) < (((g.ks.map encF).length : Nat) : Int)))) rfl rfl (fun hc15_152 => ?_) (fun hc15_152 => ?_)
           ·have q15_152 := hc15_152
            (try simp only [brs] at q15_152)
            refine at_skip ?_
            change AT _ _ _ _
            refine at_seq ?_
            refine at_block ?_
            refine at_B [2, 6, 12, 13, 14] [.eq (.tv (.ptr (celF (g.ks.getD i Fm.z))))] [(0 ≤ ((i : Nat) : Int) ∧ ((i : Nat) : Int) < ((((g.ks.map encF) : List (List TV)).length : Nat) : Int)), (.tv (.ptr (rowAt (g.ks.map encF) ((i : Nat) : Int))) : AV) = .tv (.ptr (celF (g.ks.getD i Fm.z)))] [(1000000, .any), (2, .ptr [1, 21, 7] 0), (6, .ptr [3, 10, 6, 21, 7] 0), (12, .tv (.sli 5 (g.ks.map encF))), (13, .i (((g.ks.map encF).length : Nat) : Int)), (14, .i ((i : Nat) : Int))] (b16_21 g i f d l) 5 (by kernel_rfl) ?_ ?_
            ·exact ⟨by (try simp only [lns] at *); omega, congrArg (fun c => AV.tv (.ptr c)) (row_F g.ks ((i : Nat) : Int) (by (try simp only [brs, lns] at *); omega)), trivial⟩
            have hkid : (decide ((errF (oneR d l false) (g.ks.getD i Fm.z)) = (0 : Int))) = true := decide_eq_true (hz.2 _ (getD_mem (by omega)))
            refine at_B [2, 12, 13, 14, 21] [.std, .std, .retH (.b true) (b16_34 f d l)] [CallOK Tryd.prog 76 [agF (g.ks.getD i Fm.z), .ptr [0, 21, 7] 0, .ptr [1, 21, 7] 0] (b16_21 g i f d l) [7, 10, 6, 21, 7] (fun v1 H1 => v1 = (.b true) ∧ H1 = (b16_34 f d l))] [(1000000, .any), (2, .ptr [1, 21, 7] 0), (12, .tv (.sli 5 (g.ks.map encF))), (13, .i (((g.ks.map encF).length : Nat) : Int)), (14, .i ((i : Nat) : Int)), (21, .b false)] (b16_34 f d l) 9 (by kernel_rfl) ?_ ?_
            ·refine ⟨?_, trivial⟩
             ·exact call_mv [([1, 21, 7], [1, 21, 7]), ([0, 21, 7], [0, 21, 7]), ([20, 7], [20, 7]), ([19, 7], [19, 7]), ([0, 18, 7], [0, 18, 7]), ([3, 7], [3, 7]), ([2, 7], [2, 7]), ([1, 7], [1, 7]), ([0, 7], [0, 7]), ([2], [2]), ([1], [1]), ([0], [0])] [([1, 21, 7], [1, 21, 7]), ([0, 21, 7], [0, 21, 7]), ([20, 7], [20, 7]), ([19, 7], [19, 7]), ([0, 18, 7], [0, 18, 7]), ([3, 7], [3, 7]), ([2, 7], [2, 7]), ([1, 7], [1, 7]), ([0, 7], [0, 7]), ([2], [2]), ([1], [1]), ([0], [0])] [] [] ((ih (g.ks.getD i Fm.z) (getD_mem (by omega))).1 hkid) (by kernel_rfl) (by kernel_rfl) trivial (by kernel_rfl) (by kernel_rfl) trivial (by kernel_rfl)
            refine at_cond (b := false) rfl rfl (fun h => ?_) (fun h => ?_)
            ·cases h
            clear h
            refine at_skip ?_
            change AT _ _ _ _
            refine at_Bl [2, 12, 13, 14] [.eq (.i ((i + 1 : Nat) : Int))] [(.i (wr (((i : Nat) : Int) + 1)) : AV) = .i ((i + 1 : Nat) : Int)] [(1000000, .any), (2, .ptr [1, 21, 7] 0), (12, .tv (.sli 5 (g.ks.map encF))), (13, .i (((g.ks.map encF).length : Nat) : Int)), (14, .i ((i + 1 : Nat) : Int))] (b16_34 f d l) 11 (by kernel_rfl) ?_ ?_
            ·exact ⟨succ_av i (by (try simp only [lns] at *); omega), trivial⟩
            refine ⟨rfl, (i + 1), ?_, ?_, ?_⟩
            ·(try dsimp only); omega
            ·omega
            ·exact rn_ok [([1, 21, 7], [1, 21, 7]), ([0, 21, 7], [0, 21, 7]), ([20, 7], [20, 7]), ([19, 7], [19, 7]), ([0, 18, 7], [0, 18, 7]), ([3, 7], [3, 7]), ([2, 7], [2, 7]), ([1, 7], [1, 7]), ([0, 7], [0, 7]), ([2], [2]), ([1], [1]), ([0], [0])] [] [2, 12, 13, 14] (trivial) (by kernel_rfl)
           ·have q15_152 := hc15_152
            (try simp only [brs] at q15_152)
            refine at_exit ?_
            change AT _ _ _ _
            refine at_B [4] [] [] [(1000000, .any), (4, .b true)] (b16_34 f d l) 12 (by kernel_rfl) ?_ ?_
            ·exact trivial
            refine at_ret ?_
            exact fin_in (.inr rfl) [[1, 21, 7], [0, 21, 7], [20, 7], [19, 7], [0, 18, 7], [3, 7], [2, 7], [1, 7], [0, 7], [2], [1], [0]] (.b true) (b16_34 f d l) (by kernel_rfl) rfl (by kernel_rfl)
         ·skip
          refine call_in (fn := Tryd.f76) [.tmp 4] Tryd.func76 rfl (by kernel_rfl) rfl ?_
          change AT _ _ _ ⟨[(0, agF g), (1, .ptr [0, 21, 7] 0), (2, .ptr [1, 21, 7] 0)], (b16_34 f d l), [6, 21, 7], 0⟩
          refine at_B [1, 2, 3] [] [] [(1000000, .any), (1, .ptr [0, 21, 7] 0), (2, .ptr [1, 21, 7] 0), (3, .ptr [0, 6, 21, 7] 0)] (b16_19 g f d l) 2 (by kernel_rfl) ?_ ?_
          ·exact trivial
          refine at_seq ?_
          cases hs_1541 : ((!(formedR g)))
          ·have qhs_1541 := hs_1541
           (try simp only [brs] at qhs_1541)
           cases hs_1542 : (((decide (g.op = (3 : Int))) && ((decide (g.n < (0 : Int))) || (decide ((1000000 : Int) < g.n)))))
           ·have qhs_1542 := hs_1542
            (try simp only [brs] at qhs_1542)
            cases hs_1543 : ((bif ((decide (g.op = (3 : Int))) && (decide ((idxF (fcN g.nm) d.fs 0) < (0 : Int)))) then ((decide (g.op = (3 : Int))) && (decide ((idxF (fcN g.nm) d.fs 0) < (0 : Int)))) else ((decide (g.op = (4 : Int))) && (!(List.any l (eqR g.nm))))))
            ·have qhs_1543 := hs_1543
             (try simp only [brs] at qhs_1543)
             refine at_B [2, 3, 10] [.std, .std, .retY (.b true) (b16_19 g f d l)] [YldOK Tryd.prog [20, 7] [agF g] (b16_19 g f d l) [4, 6, 21, 7] (fun v1 H1 => v1 = (.b true) ∧ H1 = (b16_19 g f d l))] [(1000000, .any), (2, .ptr [1, 21, 7] 0), (3, .ptr [0, 6, 21, 7] 0), (10, .b false)] (b16_19 g f d l) 6 (by kernel_rfl) ?_ ?_
             ·refine ⟨?_, trivial⟩
              ·refine yld_in [(1000000, .any), (4, .ptr [1, 7] 0), (5, .ptr [2, 7] 0), (6, .ptr [3, 7] 0), (22, .fn (.func 75) [.ptr [0, 18, 7] 0])] 63 [23] (fcode Tryd.f44 [1, 1, 0, 1, 1, 0]) (fcode Tryd.f44 [1, 1, 0, 1, 1, 1]) none (by kernel_rfl) (by kernel_rfl) (fun lp => ?_)
               change AT _ (fcode Tryd.f44 [1, 1, 0, 1, 1, 0]) _ ⟨[(1000000, .any), (23, agF g), (1000000, .any), (4, .ptr [1, 7] 0), (5, .ptr [2, 7] 0), (6, .ptr [3, 7] 0), (22, .fn (.func 75) [.ptr [0, 18, 7] 0])], (b16_19 g f d l), [4, 6, 21, 7], 0⟩
               refine at_Bl [4, 5, 6, 9] [] [] [(1000000, .any), (4, .ptr [1, 7] 0), (5, .ptr [2, 7] 0), (6, .ptr [3, 7] 0), (9, .ptr [0, 4, 6, 21, 7] 0)] (b16_20 g f d l) 2 (by kernel_rfl) ?_ ?_
               ·exact trivial
               refine asg_end [(1000000, .any), (4, .ptr [1, 7] 0), (5, .ptr [2, 7] 0), (6, .ptr [3, 7] 0), (22, .fn (.func 75) [.ptr [0, 18, 7] 0])] 63 [23] (fcode Tryd.f44 [1, 1, 0, 1, 1, 0]) none (by kernel_rfl) (H1 := (b16_18 g f d l)) (by kernel_rfl) ?_
               refine at_block ?_
               refine at_block ?_
               refine at_B [4, 5, 6, 9, 24] [.std, .ret (.b (formedR g))] [PureCall Tryd.prog 71 [agF g] (.b (formedR g))] [(1000000, .any), (4, .ptr [1, 7] 0), (5, .ptr [2, 7] 0), (6, .ptr [3, 7] 0), (9, .ptr [0, 4, 6, 21, 7] 0), (24, .b (!(formedR g)))] (b16_18 g f d l) 6 (by kernel_rfl) ?_ ?_
               ·exact ⟨(c71 g), trivial⟩
               refine at_cond (b := (!(formedR g))) rfl rfl (fun h => ?_) (fun h => ?_)
               ·exact absurd (h.symm.trans hs_1541) (by decide)
               clear h
               refine at_B [4, 5, 6, 9, 28] [] [] [(1000000, .any), (4, .ptr [1, 7] 0), (5, .ptr [2, 7] 0), (6, .ptr [3, 7] 0), (9, .ptr [0, 4, 6, 21, 7] 0), (28, .b ((decide (g.op = (3 : Int))) && ((decide (g.n < (0 : Int))) || (decide ((1000000 : Int) < g.n)))))] (b16_18 g f d l) 20 (by kernel_rfl) ?_ ?_
               ·exact trivial
               refine at_cond (b := ((decide (g.op = (3 : Int))) && ((decide (g.n < (0 : Int))) || (decide ((1000000 : Int) < g.n))))) rfl rfl (fun h => ?_) (fun h => ?_)
               ·exact absurd (h.symm.trans hs_1542) (by decide)
               clear h
               refine at_seq ?_
               refine at_B [5, 6, 9, 42] [.std, .std, .std, .std, .std, .std, .std, .ret (.i (idxF (fcN g.nm) d.fs 0))] [((decide (g.op = (3 : Int))) = true) → PureCall Tryd.prog 57 [agD d, .tv (.str g.nm)] (.i (idxF (fcN g.nm) d.fs 0))] [(1000000, .any), (5, .ptr [2, 7] 0), (6, .ptr [3, 7] 0), (9, .ptr [0, 4, 6, 21, 7] 0), (42, .b ((decide (g.op = (3 : Int))) && (decide ((idxF (fcN g.nm) d.fs 0) < (0 : Int)))))] (b16_18 g f d l) 31 (by kernel_rfl) ?_ ?_
               ·exact ⟨fun hg0 => (c57 d g.nm), trivial⟩
               refine at_mergel (p := [4, 6, 21, 7]) [(1000000, .any), (6, .ptr [3, 7] 0), (42, .b (bif ((decide (g.op = (3 : Int))) && (decide ((idxF (fcN g.nm) d.fs 0) < (0 : Int)))) then ((decide (g.op = (3 : Int))) && (decide ((idxF (fcN g.nm) d.fs 0) < (0 : Int)))) else ((decide (g.op = (4 : Int))) && (!(List.any l (eqR g.nm))))))] [([0, 4, 6, 21, 7], .row ((celF g).map .tv) false), ([0, 6, 21, 7], .row ((celF g).map .tv) false), ([1, 21, 7], .row [.fn (.func 76) [.ptr [0, 21, 7] 0, .ptr [1, 21, 7] 0]] false), ([0, 21, 7], .row [.yl [20, 7]] false), ([20, 7], .loop [(1000000, .any), (4, .ptr [1, 7] 0), (5, .ptr [2, 7] 0), (6, .ptr [3, 7] 0), (22, .fn (.func 75) [.ptr [0, 18, 7] 0])] 63 [23] (fcode Tryd.f44 [1, 1, 0, 1, 1, 0]) (fcode Tryd.f44 [1, 1, 0, 1, 1, 1]) .busy none), ([19, 7], .dfr), ([0, 18, 7], .row ((celF f).map .tv) false), ([3, 7], .row [.i 0] false), ([2, 7], .row [.fn (.func 45) [.ptr [2] 0]] false), ([1, 7], .row ((celD d).map .tv) false), ([0, 7], .row ((celF f).map .tv) false), ([2], .row [.tv (.sli 1 (l.map encStr))] false), ([1], .row ((celD d).map .tv) false), ([0], .row ((celF f).map .tv) false)] 42 ?_ ?_
               ·refine at_cond (b := ((decide (g.op = (3 : Int))) && (decide ((idxF (fcN g.nm) d.fs 0) < (0 : Int))))) rfl rfl (fun hc42_158 => ?_) (fun hc42_158 => ?_)
                ·skip
                 refine at_skip ?_
                 exact gh_merge [6, 42] [[0, 4, 6, 21, 7], [0, 6, 21, 7], [1, 21, 7], [0, 21, 7], [20, 7], [19, 7], [0, 18, 7], [3, 7], [2, 7], [1, 7], [0, 7], [2], [1], [0]] (Eq.trans (b := [(1000000, .any), (6, .ptr [3, 7] 0), (42, .b ((decide (g.op = (3 : Int))) && (decide ((idxF (fcN g.nm) d.fs 0) < (0 : Int)))))]) (by kernel_rfl) (by simp only [hc42_158, cond_true, cond_false]; try rfl)) (by kernel_rfl) (by kernel_rfl)
                ·skip
                 refine at_Bl [6, 42] [.std, .std, .std, .std, .std, .std, .std, .retS (.b (List.any l (eqR g.nm)))] [((decide (g.op = (4 : Int))) = true) → StabCall Tryd.prog 45 [.tv (.str g.nm), .ptr [2] 0] (b16_18 g f d l) (.b (List.any l (eqR g.nm)))] [(1000000, .any), (6, .ptr [3, 7] 0), (42, .b ((decide (g.op = (4 : Int))) && (!(List.any l (eqR g.nm)))))] (b16_18 g f d l) 42 (by kernel_rfl) ?_ ?_
                 ·exact ⟨fun hg0 => StabCall.mono (H := [(b16_3 l)]) (stab_mv (args := [.tv (.str g.nm), .ptr [0] 0]) (H := [(b16_17 l)]) (H2 := [(b16_3 l)]) (q := [50]) [([2], [0])] [([0], [2])] [] [] ((c45 g.nm l) _ _ (fun _ _ h => h)) (by kernel_rfl) (by kernel_rfl) (trivial) (by kernel_rfl) (by kernel_rfl) (trivial)) (sub_cons (by kernel_rfl) sub_nil), trivial⟩
                 exact gh_merge [6, 42] [[0, 4, 6, 21, 7], [0, 6, 21, 7], [1, 21, 7], [0, 21, 7], [20, 7], [19, 7], [0, 18, 7], [3, 7], [2, 7], [1, 7], [0, 7], [2], [1], [0]] (Eq.trans (b := [(1000000, .any), (6, .ptr [3, 7] 0), (42, .b ((decide (g.op = (4 : Int))) && (!(List.any l (eqR g.nm)))))]) (by kernel_rfl) (by simp only [hc42_158, cond_true, cond_false]; try rfl)) (by kernel_rfl) (by kernel_rfl)
               change AT _ _ _ _
               refine at_cond (b := (bif ((decide (g.op = (3 : Int))) && (decide ((idxF (fcN g.nm) d.fs 0) < (0 : Int)))) then ((decide (g.op = (3 : Int))) && (decide ((idxF (fcN g.nm) d.fs 0) < (0 : Int)))) else ((decide (g.op = (4 : Int))) && (!(List.any l (eqR g.nm)))))) rfl rfl (fun h => ?_) (fun h => ?_)
               ·exact absurd (h.symm.trans hs_1543) (by decide)
               clear h
               refine at_skip ?_
               exact round_end (q := [4, 6, 21, 7]) [[0, 6, 21, 7], [1, 21, 7], [0, 21, 7], [20, 7], [19, 7], [0, 18, 7], [3, 7], [2, 7], [1, 7], [0, 7], [2], [1], [0]] [(1000000, .any), (4, .ptr [1, 7] 0), (5, .ptr [2, 7] 0), (6, .ptr [3, 7] 0), (22, .fn (.func 75) [.ptr [0, 18, 7] 0])] 63 [23] (fcode Tryd.f44 [1, 1, 0, 1, 1, 0]) (fcode Tryd.f44 [1, 1, 0, 1, 1, 1]) .busy none (by kernel_rfl) rfl (by kernel_rfl)
             refine at_cond (b := false) rfl rfl (fun h => ?_) (fun h => ?_)
             ·cases h
             clear h
             refine at_skip ?_
             change AT _ _ _ _
             refine at_seq ?_
             refine at_B [2, 12, 13, 14] [] [] [(1000000, .any), (2, .ptr [1, 21, 7] 0), (12, .tv (.sli 5 (g.ks.map encF))), (13, .i (((g.ks.map encF).length : Nat) : Int)), (14, .i 0)] (b16_19 g f d l) 10 (by kernel_rfl) ?_ ?_
             ·exact trivial
             refine at_block ?_
             refine at_len 12 rfl (fun hlen => ?_)
             have hz0 := one_0 hs_1541 hs_1542 ((vis_n0 (l := l)).symm.trans hs_1543)
             refine at_loopR (X := Nat) 0 (fun (i : Nat) => [(1000000, .any), (2, .ptr [1, 21, 7] 0), (12, .tv (.sli 5 (g.ks.map encF))), (13, .i (((g.ks.map encF).length : Nat) : Int)), (14, .i ((i : Nat) : Int))]) (fun (i : Nat) => (b16_34 f d l)) (fun (i : Nat) => i ≤ g.ks.length ∧ errFs (oneR d l false) (g.ks.drop i) = errF (oneR d l false) g) (fun (i : Nat) => g.ks.length - i) 0 ?_ ?_ ?_
             ·exact ⟨Nat.zero_le _, vis_start (by simpa using hv) hz0⟩
             ·exact rn_ok [([1, 21, 7], [1, 21, 7]), ([0, 21, 7], [0, 21, 7]), ([20, 7], [20, 7]), ([19, 7], [19, 7]), ([0, 18, 7], [0, 18, 7]), ([3, 7], [3, 7]), ([2, 7], [2, 7]), ([1, 7], [1, 7]), ([0, 7], [0, 7]), ([2], [2]), ([1], [1]), ([0], [0])] [] [2, 12, 13, 14] (trivial) (by kernel_rfl)
             ·intro i hinv
              obtain ⟨hx1, hx2⟩ := hinv
              refine at_B [2, 12, 13, 14, 15] [] [] [(1000000, .any), (2, .ptr [1, 21, 7] 0), (12, .tv (.sli 5 (g.ks.map encF))), (13, .i (((g.ks.map encF).length : Nat) : Int)), (14, .i ((i : Nat) : Int)), (15, .b (decide (((i : Nat) : Int) < (((g.ks.map encF).length : Nat) : Int))))] (b16_34 f d l) 1 (by kernel_rfl) ?_ ?_
              ·exact trivial
              refine at_seq ?_
              refine at_cond (b := (decide (((i : Nat) : Int) < (((g.ks.map encF).length : Nat) : Int)))) rfl rfl (fun hc15_154 => ?_) (fun hc15_154 => ?_)
              ·have q15_154 := hc15_154
               (try simp only [brs] at q15_154)
               refine at_skip ?_
               change AT _ _ _ _
               refine at_seq ?_
               refine at_block ?_
               refine at_B [2, 6, 12, 13, 14] [.eq (.tv (.ptr (celF (g.ks.getD i Fm.z))))] [(0 ≤ ((i : Nat) : Int) ∧ ((i : Nat) : Int) < ((((g.ks.map encF) : List (List TV)).length : Nat) : Int)), (.tv (.ptr (rowAt (g.ks.map encF) ((i : Nat) : Int))) : AV) = .tv (.ptr (celF (g.ks.getD i Fm.z)))] [(1000000, .any), (2, .ptr [1, 21, 7] 0), (6, .ptr [3, 10, 6, 21, 7] 0), (12, .tv (.sli 5 (g.ks.map encF))), (13, .i (((g.ks.map encF).length : Nat) : Int)), (14, .i ((i : Nat) : Int))] (b16_21 g i f d l) 5 (by kernel_rfl) ?_ ?_
               ·exact ⟨by (try simp only [lns] at *); omega, congrArg (fun c => AV.tv (.ptr c)) (row_F g.ks ((i : Nat) : Int) (by (try simp only [brs, lns] at *); omega)), trivial⟩
               cases hs_1544 : ((decide ((errF (oneR d l false) (g.ks.getD i Fm.z)) = (0 : Int))))
               ·have qhs_1544 := hs_1544
                (try simp only [brs] at qhs_1544)
                refine at_B [2, 12, 13, 14, 21] [.std, .std, .retH (.b false) (b16_36 f d l g i)] [CallOK Tryd.prog 76 [agF (g.ks.getD i Fm.z), .ptr [0, 21, 7] 0, .ptr [1, 21, 7] 0] (b16_21 g i f d l) [7, 10, 6, 21, 7] (fun v1 H1 => v1 = (.b false) ∧ H1 = (b16_36 f d l g i))] [(1000000, .any), (2, .ptr [1, 21, 7] 0), (12, .tv (.sli 5 (g.ks.map encF))), (13, .i (((g.ks.map encF).length : Nat) : Int)), (14, .i ((i : Nat) : Int)), (21, .b true)] (b16_36 f d l g i) 9 (by kernel_rfl) ?_ ?_
                ·refine ⟨?_, trivial⟩
                 ·exact call_mv [([1, 21, 7], [1, 21, 7]), ([0, 21, 7], [0, 21, 7]), ([20, 7], [20, 7]), ([19, 7], [19, 7]), ([0, 18, 7], [0, 18, 7]), ([3, 7], [3, 7]), ([2, 7], [2, 7]), ([1, 7], [1, 7]), ([0, 7], [0, 7]), ([2], [2]), ([1], [1]), ([0], [0])] [([1, 21, 7], [1, 21, 7]), ([0, 21, 7], [0, 21, 7]), ([20, 7], [20, 7]), ([19, 7], [19, 7]), ([0, 18, 7], [0, 18, 7]), ([3, 7], [3, 7]), ([2, 7], [2, 7]), ([1, 7], [1, 7]), ([0, 7], [0, 7]), ([2], [2]), ([1], [1]), ([0], [0])] [] [] ((ih (g.ks.getD i Fm.z) (getD_mem (by omega))).2 hs_1544) (by kernel_rfl) (by kernel_rfl) trivial (by kernel_rfl) (by kernel_rfl) trivial (by kernel_rfl)
                refine at_cond (b := true) rfl rfl (fun h => ?_) (fun h => ?_)
                rotate_left
                ·cases h
                clear h
                refine at_B [4] [] [] [(1000000, .any), (4, .b false)] (b16_36 f d l g i) 10 (by kernel_rfl) ?_ ?_
                ·exact trivial
                refine at_ret ?_
                exact fin_in (.inr rfl) [[1, 21, 7], [0, 21, 7], [20, 7], [19, 7], [0, 18, 7], [3, 7], [2, 7], [1, 7], [0, 7], [2], [1], [0]] (.b false) [([1, 21, 7], .row [.fn (.func 76) [.ptr [0, 21, 7] 0, .ptr [1, 21, 7] 0]] false), ([0, 21, 7], .row [.yl [20, 7]] false), ([20, 7], .loop [(1000000, .any), (4, .ptr [1, 7] 0), (5, .ptr [2, 7] 0), (6, .ptr [3, 7] 0), (22, .fn (.func 75) [.ptr [0, 18, 7] 0])] 63 [23] (fcode Tryd.f44 [1, 1, 0, 1, 1, 0]) (fcode Tryd.f44 [1, 1, 0, 1, 1, 1]) .done (some .ret)), ([19, 7], .dfr), ([0, 18, 7], .row ((celF f).map .tv) false), ([3, 7], .row [.i (errF (oneR d l false) (g.ks.getD i Fm.z))] false), ([2, 7], .row [.fn (.func 45) [.ptr [2] 0]] false), ([1, 7], .row ((celD d).map .tv) false), ([0, 7], .row ((celF f).map .tv) false), ([2], .row [.tv (.sli 1 (l.map encStr))] false), ([1], .row ((celD d).map .tv) false), ([0], .row ((celF f).map .tv) false)] (by kernel_rfl) rfl (by show keepH _ _ = [([1, 21, 7], .row [.fn (.func 76) [.ptr [0, 21, 7] 0, .ptr [1, 21, 7] 0]] false), ([0, 21, 7], .row [.yl [20, 7]] false), ([20, 7], .loop [(1000000, .any), (4, .ptr [1, 7] 0), (5, .ptr [2, 7] 0), (6, .ptr [3, 7] 0), (22, .fn (.func 75) [.ptr [0, 18, 7] 0])] 63 [23] (fcode Tryd.f44 [1, 1, 0, 1, 1, 0]) (fcode Tryd.f44 [1, 1, 0, 1, 1, 1]) .done (some .ret)), ([19, 7], .dfr), ([0, 18, 7], .row ((celF f).map .tv) false), ([3, 7], .row [.i (errF (oneR d l false) g)] false), ([2, 7], .row [.fn (.func 45) [.ptr [2] 0]] false), ([1, 7], .row ((celD d).map .tv) false), ([0, 7], .row ((celF f).map .tv) false), ([2], .row [.tv (.sli 1 (l.map encStr))] false), ([1], .row ((celD d).map .tv) false), ([0], .row ((celF f).map .tv) false)]; rw [show errF (oneR d l false) g = _ from (err_stop (i := i) (by omega) hx2 (of_decide_eq_false hs_1544))]; kernel_rfl)
               ·have qhs_1544 := hs_1544
                (try simp only [brs] at qhs_1544)
                refine at_B [2, 12, 13, 14, 21] [.std, .std, .retH (.b true) (b16_34 f d l)] [CallOK Tryd.prog 76 [agF (g.ks.getD i Fm.z), .ptr [0, 21, 7] 0, .ptr [1, 21, 7] 0] (b16_21 g i f d l) [7, 10, 6, 21, 7] (fun v1 H1 => v1 = (.b true) ∧ H1 = (b16_34 f d l))] [(1000000, .any), (2, .ptr [1, 21, 7] 0), (12, .tv (.sli 5 (g.ks.map encF))), (13, .i (((g.ks.map encF).length : Nat) : Int)), (14, .i ((i : Nat) : Int)), (21, .b false)] (b16_34 f d l) 9 (by kernel_rfl) ?_ ?_
                ·refine ⟨?_, trivial⟩
                 ·exact call_mv [([1, 21, 7], [1, 21, 7]), ([0, 21, 7], [0, 21, 7]), ([20, 7], [20, 7]), ([19, 7], [19, 7]), ([0, 18, 7], [0, 18, 7]), ([3, 7], [3, 7]), ([2, 7], [2, 7]), ([1, 7], [1, 7]), ([0, 7], [0, 7]), ([2], [2]), ([1], [1]), ([0], [0])] [([1, 21, 7], [1, 21, 7]), ([0, 21, 7], [0, 21, 7]), ([20, 7], [20, 7]), ([19, 7], [19, 7]), ([0, 18, 7], [0, 18, 7]), ([3, 7], [3, 7]), ([2, 7], [2, 7]), ([1, 7], [1, 7]), ([0, 7], [0, 7]), ([2], [2]), ([1], [1]), ([0], [0])] [] [] ((ih (g.ks.getD i Fm.z) (getD_mem (by omega))).1 hs_1544) (by kernel_rfl) (by kernel_rfl) trivial (by kernel_rfl) (by kernel_rfl) trivial (by kernel_rfl)
                refine at_cond (b := false) rfl rfl (fun h => ?_) (fun h => ?_)
                ·cases h
                clear h
                refine at_skip ?_
                change AT _ _ _ _
                refine at_Bl [2, 12, 13, 14] [.eq (.i ((i + 1 : Nat) : Int))] [(.i (wr (((i : Nat) : Int) + 1)) : AV) = .i ((i + 1 : Nat) : Int)] [(1000000, .any), (2, .ptr [1, 21, 7] 0), (12, .tv (.sli 5 (g.ks.map encF))), (13, .i (((g.ks.map encF).length : Nat) : Int)), (14, .i ((i + 1 : Nat) : Int))] (b16_34 f d l) 11 (by kernel_rfl) ?_ ?_
                ·exact ⟨succ_av i (by (try simp only [lns] at *); omega), trivial⟩
                refine ⟨rfl, (i + 1), ?_, ?_, ?_⟩
                ·(try dsimp only); omega
                ·exact ⟨by omega, err_step (by omega) hx2 (of_decide_eq_true hs_1544)⟩
                ·exact rn_ok [([1, 21, 7], [1, 21, 7]), ([0, 21, 7], [0, 21, 7]), ([20, 7], [20, 7]), ([19, 7], [19, 7]), ([0, 18, 7], [0, 18, 7]), ([3, 7], [3, 7]), ([2, 7], [2, 7]), ([1, 7], [1, 7]), ([0, 7], [0, 7]), ([2], [2]), ([1], [1]), ([0], [0])] [] [2, 12, 13, 14] (trivial) (by kernel_rfl)
              ·have q15_154 := hc15_154
               (try simp only [brs] at q15_154)
               exact absurd (err_end (i := i) (by omega) hx2) (by simpa using hv)
            ·have qhs_1543 := hs_1543
             (try simp only [brs] at qhs_1543)
             refine at_B [2, 3, 10] [.std, .std, .retY (.b false) (b16_23 g f d l)] [YldOK Tryd.prog [20, 7] [agF g] (b16_19 g f d l) [4, 6, 21, 7] (fun v1 H1 => v1 = (.b false) ∧ H1 = (b16_23 g f d l))] [(1000000, .any), (2, .ptr [1, 21, 7] 0), (3, .ptr [0, 6, 21, 7] 0), (10, .b true)] (b16_23 g f d l) 6 (by kernel_rfl) ?_ ?_
             ·refine ⟨?_, trivial⟩
              ·refine yld_in [(1000000, .any), (4, .ptr [1, 7] 0), (5, .ptr [2, 7] 0), (6, .ptr [3, 7] 0), (22, .fn (.func 75) [.ptr [0, 18, 7] 0])] 63 [23] (fcode Tryd.f44 [1, 1, 0, 1, 1, 0]) (fcode Tryd.f44 [1, 1, 0, 1, 1, 1]) none (by kernel_rfl) (by kernel_rfl) (fun lp => ?_)
               change AT _ (fcode Tryd.f44 [1, 1, 0, 1, 1, 0]) _ ⟨[(1000000, .any), (23, agF g), (1000000, .any), (4, .ptr [1, 7] 0), (5, .ptr [2, 7] 0), (6, .ptr [3, 7] 0), (22, .fn (.func 75) [.ptr [0, 18, 7] 0])], (b16_19 g f d l), [4, 6, 21, 7], 0⟩
               refine at_Bl [4, 5, 6, 9] [] [] [(1000000, .any), (4, .ptr [1, 7] 0), (5, .ptr [2, 7] 0), (6, .ptr [3, 7] 0), (9, .ptr [0, 4, 6, 21, 7] 0)] (b16_20 g f d l) 2 (by kernel_rfl) ?_ ?_
               ·exact trivial
               refine asg_end [(1000000, .any), (4, .ptr [1, 7] 0), (5, .ptr [2, 7] 0), (6, .ptr [3, 7] 0), (22, .fn (.func 75) [.ptr [0, 18, 7] 0])] 63 [23] (fcode Tryd.f44 [1, 1, 0, 1, 1, 0]) none (by kernel_rfl) (H1 := (b16_18 g f d l)) (by kernel_rfl) ?_
               refine at_block ?_
               refine at_block ?_
               refine at_B [4, 5, 6, 9, 24] [.std, .ret (.b (formedR g))] [PureCall Tryd.prog 71 [agF g] (.b (formedR g))] [(1000000, .any), (4, .ptr [1, 7] 0), (5, .ptr [2, 7] 0), (6, .ptr [3, 7] 0), (9, .ptr [0, 4, 6, 21, 7] 0), (24, .b (!(formedR g)))] (b16_18 g f d l) 6 (by kernel_rfl) ?_ ?_
               ·exact ⟨(c71 g), trivial⟩
               refine at_cond (b := (!(formedR g))) rfl rfl (fun h => ?_) (fun h => ?_)
               ·exact absurd (h.symm.trans hs_1541) (by decide)
               clear h
               refine at_B [4, 5, 6, 9, 28] [] [] [(1000000, .any), (4, .ptr [1, 7] 0), (5, .ptr [2, 7] 0), (6, .ptr [3, 7] 0), (9, .ptr [0, 4, 6, 21, 7] 0), (28, .b ((decide (g.op = (3 : Int))) && ((decide (g.n < (0 : Int))) || (decide ((1000000 : Int) < g.n)))))] (b16_18 g f d l) 20 (by kernel_rfl) ?_ ?_
               ·exact trivial
               refine at_cond (b := ((decide (g.op = (3 : Int))) && ((decide (g.n < (0 : Int))) || (decide ((1000000 : Int) < g.n))))) rfl rfl (fun h => ?_) (fun h => ?_)
               ·exact absurd (h.symm.trans hs_1542) (by decide)
               clear h
               refine at_seq ?_
               refine at_B [5, 6, 9, 42] [.std, .std, .std, .std, .std, .std, .std, .ret (.i (idxF (fcN g.nm) d.fs 0))] [((decide (g.op = (3 : Int))) = true) → PureCall Tryd.prog 57 [agD d, .tv (.str g.nm)] (.i (idxF (fcN g.nm) d.fs 0))] [(1000000, .any), (5, .ptr [2, 7] 0), (6, .ptr [3, 7] 0), (9, .ptr [0, 4, 6, 21, 7] 0), (42, .b ((decide (g.op = (3 : Int))) && (decide ((idxF (fcN g.nm) d.fs 0) < (0 : Int)))))] (b16_18 g f d l) 31 (by kernel_rfl) ?_ ?_
               ·exact ⟨fun hg0 => (c57 d g.nm), trivial⟩
               refine at_mergel (p := [4, 6, 21, 7]) [(1000000, .any), (6, .ptr [3, 7] 0), (42, .b (bif ((decide (g.op = (3 : Int))) && (decide ((idxF (fcN g.nm) d.fs 0) < (0 : Int)))) then ((decide (g.op = (3 : Int))) && (decide ((idxF (fcN g.nm) d.fs 0) < (0 : Int)))) else ((decide (g.op = (4 : Int))) && (!(List.any l (eqR g.nm))))))] [([0, 4, 6, 21, 7], .row ((celF g).map .tv) false), ([0, 6, 21, 7], .row ((celF g).map .tv) false), ([1, 21, 7], .row [.fn (.func 76) [.ptr [0, 21, 7] 0, .ptr [1, 21, 7] 0]] false), ([0, 21, 7], .row [.yl [20, 7]] false), ([20, 7], .loop [(1000000, .any), (4, .ptr [1, 7] 0), (5, .ptr [2, 7] 0), (6, .ptr [3, 7] 0), (22, .fn (.func 75) [.ptr [0, 18, 7] 0])] 63 [23] (fcode Tryd.f44 [1, 1, 0, 1, 1, 0]) (fcode Tryd.f44 [1, 1, 0, 1, 1, 1]) .busy none), ([19, 7], .dfr), ([0, 18, 7], .row ((celF f).map .tv) false), ([3, 7], .row [.i 0] false), ([2, 7], .row [.fn (.func 45) [.ptr [2] 0]] false), ([1, 7], .row ((celD d).map .tv) false), ([0, 7], .row ((celF f).map .tv) false), ([2], .row [.tv (.sli 1 (l.map encStr))] false), ([1], .row ((celD d).map .tv) false), ([0], .row ((celF f).map .tv) false)] 42 ?_ ?_
               ·refine at_cond (b := ((decide (g.op = (3 : Int))) && (decide ((idxF (fcN g.nm) d.fs 0) < (0 : Int))))) rfl rfl (fun hc42_159 => ?_) (fun hc42_159 => ?_)
                ·skip
                 refine at_skip ?_
                 exact gh_merge [6, 42] [[0, 4, 6, 21, 7], [0, 6, 21, 7], [1, 21, 7], [0, 21, 7], [20, 7], [19, 7], [0, 18, 7], [3, 7], [2, 7], [1, 7], [0, 7], [2], [1], [0]] (Eq.trans (b := [(1000000, .any), (6, .ptr [3, 7] 0), (42, .b ((decide (g.op = (3 : Int))) && (decide ((idxF (fcN g.nm) d.fs 0) < (0 : Int)))))]) (by kernel_rfl) (by simp only [hc42_159, cond_true, cond_false]; try rfl)) (by kernel_rfl) (by kernel_rfl)
                ·skip
                 refine at_Bl [6, 42] [.std, .std, .std, .std, .std, .std, .std, .retS (.b (List.any l (eqR g.nm)))] [((decide (g.op = (4 : Int))) = true) → StabCall Tryd.prog 45 [.tv (.str g.nm), .ptr [2] 0] (b16_18 g f d l) (.b (List.any l (eqR g.nm)))] [(1000000, .any), (6, .ptr [3, 7] 0), (42, .b ((decide (g.op = (4 : Int))) && (!(List.any l (eqR g.nm)))))] (b16_18 g f d l) 42 (by kernel_rfl) ?_ ?_
                 ·exact ⟨fun hg0 => StabCall.mono (H := [(b16_3 l)]) (stab_mv (args := [.tv (.str g.nm), .ptr [0] 0]) (H := [(b16_17 l)]) (H2 := [(b16_3 l)]) (q := [50]) [([2], [0])] [([0], [2])] [] [] ((c45 g.nm l) _ _ (fun _ _ h => h)) (by kernel_rfl) (by kernel_rfl) (trivial) (by kernel_rfl) (by kernel_rfl) (trivial)) (sub_cons (by kernel_rfl) sub_nil), trivial⟩
                 exact gh_merge [6, 42] [[0, 4, 6, 21, 7], [0, 6, 21, 7], [1, 21, 7], [0, 21, 7], [20, 7], [19, 7], [0, 18, 7], [3, 7], [2, 7], [1, 7], [0, 7], [2], [1], [0]] (Eq.trans (b := [(1000000, .any), (6, .ptr [3, 7] 0), (42, .b ((decide (g.op = (4 : Int))) && (!(List.any l (eqR g.nm)))))]) (by kernel_rfl) (by simp only [hc42_159, cond_true, cond_false]; try rfl)) (by kernel_rfl) (by kernel_rfl)
               change AT _ _ _ _
               refine at_cond (b := (bif ((decide (g.op = (3 : Int))) && (decide ((idxF (fcN g.nm) d.fs 0) < (0 : Int)))) then ((decide (g.op = (3 : Int))) && (decide ((idxF (fcN g.nm) d.fs 0) < (0 : Int)))) else ((decide (g.op = (4 : Int))) && (!(List.any l (eqR g.nm)))))) rfl rfl (fun h => ?_) (fun h => ?_)
               rotate_left
               ·exact absurd (h.symm.trans hs_1543) (by decide)
               clear h
               refine at_B [6] [] [] [(1000000, .any), (6, .ptr [3, 7] 0)] (b16_28 g f d l) 43 (by kernel_rfl) ?_ ?_
               ·exact trivial
               refine at_ret ?_
               exact round_ret (q := [4, 6, 21, 7]) [[0, 6, 21, 7], [1, 21, 7], [0, 21, 7], [20, 7], [19, 7], [0, 18, 7], [3, 7], [2, 7], [1, 7], [0, 7], [2], [1], [0]] [(1000000, .any), (4, .ptr [1, 7] 0), (5, .ptr [2, 7] 0), (6, .ptr [3, 7] 0), (22, .fn (.func 75) [.ptr [0, 18, 7] 0])] 63 [23] (fcode Tryd.f44 [1, 1, 0, 1, 1, 0]) (fcode Tryd.f44 [1, 1, 0, 1, 1, 1]) .busy none (by kernel_rfl) rfl (by kernel_rfl)
             refine at_cond (b := true) rfl rfl (fun h => ?_) (fun h => ?_)
             rotate_left
             ·cases h
             clear h
             refine at_B [4] [] [] [(1000000, .any), (4, .b false)] (b16_23 g f d l) 7 (by kernel_rfl) ?_ ?_
             ·exact trivial
             refine at_ret ?_
             exact fin_in (.inr rfl) [[1, 21, 7], [0, 21, 7], [20, 7], [19, 7], [0, 18, 7], [3, 7], [2, 7], [1, 7], [0, 7], [2], [1], [0]] (.b false) [([0, 6, 21, 7], .row ((celF g).map .tv) false), ([1, 21, 7], .row [.fn (.func 76) [.ptr [0, 21, 7] 0, .ptr [1, 21, 7] 0]] false), ([0, 21, 7], .row [.yl [20, 7]] false), ([20, 7], .loop [(1000000, .any), (4, .ptr [1, 7] 0), (5, .ptr [2, 7] 0), (6, .ptr [3, 7] 0), (22, .fn (.func 75) [.ptr [0, 18, 7] 0])] 63 [23] (fcode Tryd.f44 [1, 1, 0, 1, 1, 0]) (fcode Tryd.f44 [1, 1, 0, 1, 1, 1]) .done (some .ret)), ([19, 7], .dfr), ([0, 18, 7], .row ((celF f).map .tv) false), ([3, 7], .row [.i 7] false), ([2, 7], .row [.fn (.func 45) [.ptr [2] 0]] false), ([1, 7], .row ((celD d).map .tv) false), ([0, 7], .row ((celF f).map .tv) false), ([2], .row [.tv (.sli 1 (l.map encStr))] false), ([1], .row ((celD d).map .tv) false), ([0], .row ((celF f).map .tv) false)] (by kernel_rfl) rfl (by show keepH _ _ = [([1, 21, 7], .row [.fn (.func 76) [.ptr [0, 21, 7] 0, .ptr [1, 21, 7] 0]] false), ([0, 21, 7], .row [.yl [20, 7]] false), ([20, 7], .loop [(1000000, .any), (4, .ptr [1, 7] 0), (5, .ptr [2, 7] 0), (6, .ptr [3, 7] 0), (22, .fn (.func 75) [.ptr [0, 18, 7] 0])] 63 [23] (fcode Tryd.f44 [1, 1, 0, 1, 1, 0]) (fcode Tryd.f44 [1, 1, 0, 1, 1, 1]) .done (some .ret)), ([19, 7], .dfr), ([0, 18, 7], .row ((celF f).map .tv) false), ([3, 7], .row [.i (errF (oneR d l false) g)] false), ([2, 7], .row [.fn (.func 45) [.ptr [2] 0]] false), ([1, 7], .row ((celD d).map .tv) false), ([0, 7], .row ((celF f).map .tv) false), ([2], .row [.tv (.sli 1 (l.map encStr))] false), ([1], .row ((celD d).map .tv) false), ([0], .row ((celF f).map .tv) false)]; rw [show errF (oneR d l false) g = _ from (err_at (one_7 hs_1541 hs_1542 ((vis_n0 (l := l)).symm.trans hs_1543)) (by decide))]; kernel_rfl)
           ·have qhs_1542 := hs_1542
            (try simp only [brs] at qhs_1542)
            refine at_B [2, 3, 10] [.std, .std, .retY (.b false) (b16_24 g f d l)] [YldOK Tryd.prog [20, 7] [agF g] (b16_19 g f d l) [4, 6, 21, 7] (fun v1 H1 => v1 = (.b false) ∧ H1 = (b16_24 g f d l))] [(1000000, .any), (2, .ptr [1, 21, 7] 0), (3, .ptr [0, 6, 21, 7] 0), (10, .b true)] (b16_24 g f d l) 6 (by kernel_rfl) ?_ ?_
            ·refine ⟨?_, trivial⟩
             ·refine yld_in [(1000000, .any), (4, .ptr [1, 7] 0), (5, .ptr [2, 7] 0), (6, .ptr [3, 7] 0), (22, .fn (.func 75) [.ptr [0, 18, 7] 0])] 63 [23] (fcode Tryd.f44 [1, 1, 0, 1, 1, 0]) (fcode Tryd.f44 [1, 1, 0, 1, 1, 1]) none (by kernel_rfl) (by kernel_rfl) (fun lp => ?_)
              change AT _ (fcode Tryd.f44 [1, 1, 0, 1, 1, 0]) _ ⟨[(1000000, .any), (23, agF g), (1000000, .any), (4, .ptr [1, 7] 0), (5, .ptr [2, 7] 0), (6, .ptr [3, 7] 0), (22, .fn (.func 75) [.ptr [0, 18, 7] 0])], (b16_19 g f d l), [4, 6, 21, 7], 0⟩
              refine at_Bl [4, 5, 6, 9] [] [] [(1000000, .any), (4, .ptr [1, 7] 0), (5, .ptr [2, 7] 0), (6, .ptr [3, 7] 0), (9, .ptr [0, 4, 6, 21, 7] 0)] (b16_20 g f d l) 2 (by kernel_rfl) ?_ ?_
              ·exact trivial
              refine asg_end [(1000000, .any), (4, .ptr [1, 7] 0), (5, .ptr [2, 7] 0), (6, .ptr [3, 7] 0), (22, .fn (.func 75) [.ptr [0, 18, 7] 0])] 63 [23] (fcode Tryd.f44 [1, 1, 0, 1, 1, 0]) none (by kernel_rfl) (H1 := (b16_18 g f d l)) (by kernel_rfl) ?_
              refine at_block ?_
              refine at_block ?_
              refine at_B [4, 5, 6, 9, 24] [.std, .ret (.b (formedR g))] [PureCall Tryd.prog 71 [agF g] (.b (formedR g))] [(1000000, .any), (4, .ptr [1, 7] 0), (5, .ptr [2, 7] 0), (6, .ptr [3, 7] 0), (9, .ptr [0, 4, 6, 21, 7] 0), (24, .b (!(formedR g)))] (b16_18 g f d l) 6 (by kernel_rfl) ?_ ?_
              ·exact ⟨(c71 g), trivial⟩
              refine at_cond (b := (!(formedR g))) rfl rfl (fun h => ?_) (fun h => ?_)
              ·exact absurd (h.symm.trans hs_1541) (by decide)
              clear h
              refine at_B [4, 5, 6, 9, 28] [] [] [(1000000, .any), (4, .ptr [1, 7] 0), (5, .ptr [2, 7] 0), (6, .ptr [3, 7] 0), (9, .ptr [0, 4, 6, 21, 7] 0), (28, .b ((decide (g.op = (3 : Int))) && ((decide (g.n < (0 : Int))) || (decide ((1000000 : Int) < g.n)))))] (b16_18 g f d l) 20 (by kernel_rfl) ?_ ?_
              ·exact trivial
              refine at_cond (b := ((decide (g.op = (3 : Int))) && ((decide (g.n < (0 : Int))) || (decide ((1000000 : Int) < g.n))))) rfl rfl (fun h => ?_) (fun h => ?_)
              rotate_left
              ·exact absurd (h.symm.trans hs_1542) (by decide)
              clear h
              refine at_B [6] [] [] [(1000000, .any), (6, .ptr [3, 7] 0)] (b16_29 g f d l) 21 (by kernel_rfl) ?_ ?_
              ·exact trivial
              refine at_ret ?_
              exact round_ret (q := [4, 6, 21, 7]) [[0, 6, 21, 7], [1, 21, 7], [0, 21, 7], [20, 7], [19, 7], [0, 18, 7], [3, 7], [2, 7], [1, 7], [0, 7], [2], [1], [0]] [(1000000, .any), (4, .ptr [1, 7] 0), (5, .ptr [2, 7] 0), (6, .ptr [3, 7] 0), (22, .fn (.func 75) [.ptr [0, 18, 7] 0])] 63 [23] (fcode Tryd.f44 [1, 1, 0, 1, 1, 0]) (fcode Tryd.f44 [1, 1, 0, 1, 1, 1]) .busy none (by kernel_rfl) rfl (by kernel_rfl)
            refine at_cond (b := true) rfl rfl (fun h => ?_) (fun h => ?_)
            rotate_left
            ·cases h
            clear h
            refine at_B [4] [] [] [(1000000, .any), (4, .b false)] (b16_24 g f d l) 7 (by kernel_rfl) ?_ ?_
            ·exact trivial
            refine at_ret ?_
            exact fin_in (.inr rfl) [[1, 21, 7], [0, 21, 7], [20, 7], [19, 7], [0, 18, 7], [3, 7], [2, 7], [1, 7], [0, 7], [2], [1], [0]] (.b false) [([0, 6, 21, 7], .row ((celF g).map .tv) false), ([1, 21, 7], .row [.fn (.func 76) [.ptr [0, 21, 7] 0, .ptr [1, 21, 7] 0]] false), ([0, 21, 7], .row [.yl [20, 7]] false), ([20, 7], .loop [(1000000, .any), (4, .ptr [1, 7] 0), (5, .ptr [2, 7] 0), (6, .ptr [3, 7] 0), (22, .fn (.func 75) [.ptr [0, 18, 7] 0])] 63 [23] (fcode Tryd.f44 [1, 1, 0, 1, 1, 0]) (fcode Tryd.f44 [1, 1, 0, 1, 1, 1]) .done (some .ret)), ([19, 7], .dfr), ([0, 18, 7], .row ((celF f).map .tv) false), ([3, 7], .row [.i 10] false), ([2, 7], .row [.fn (.func 45) [.ptr [2] 0]] false), ([1, 7], .row ((celD d).map .tv) false), ([0, 7], .row ((celF f).map .tv) false), ([2], .row [.tv (.sli 1 (l.map encStr))] false), ([1], .row ((celD d).map .tv) false), ([0], .row ((celF f).map .tv) false)] (by kernel_rfl) rfl (by show keepH _ _ = [([1, 21, 7], .row [.fn (.func 76) [.ptr [0, 21, 7] 0, .ptr [1, 21, 7] 0]] false), ([0, 21, 7], .row [.yl [20, 7]] false), ([20, 7], .loop [(1000000, .any), (4, .ptr [1, 7] 0), (5, .ptr [2, 7] 0), (6, .ptr [3, 7] 0), (22, .fn (.func 75) [.ptr [0, 18, 7] 0])] 63 [23] (fcode Tryd.f44 [1, 1, 0, 1, 1, 0]) (fcode Tryd.f44 [1, 1, 0, 1, 1, 1]) .done (some .ret)), ([19, 7], .dfr), ([0, 18, 7], .row ((celF f).map .tv) false), ([3, 7], .row [.i (errF (oneR d l false) g)] false), ([2, 7], .row [.fn (.func 45) [.ptr [2] 0]] false), ([1, 7], .row ((celD d).map .tv) false), ([0, 7], .row ((celF f).map .tv) false), ([2], .row [.tv (.sli 1 (l.map encStr))] false), ([1], .row ((celD d).map .tv) false), ([0], .row ((celF f).map .tv) false)]; rw [show errF (oneR d l false) g = _ from (err_at (one_10 hs_1541 hs_1542) (by decide))]; kernel_rfl)
          ·have qhs_1541 := hs_1541
           (try simp only [brs] at qhs_1541)
           refine at_B [2, 3, 10] [.std, .std, .retY (.b false) (b16_25 g f d l)] [YldOK Tryd.prog [20, 7] [agF g] (b16_19 g f d l) [4, 6, 21, 7] (fun v1 H1 => v1 = (.b false) ∧ H1 = (b16_25 g f d l))] [(1000000, .any), (2, .ptr [1, 21, 7] 0), (3, .ptr [0, 6, 21, 7] 0), (10, .b true)] (b16_25 g f d l) 6 (by kernel_rfl) ?_ ?_
           ·refine ⟨?_, trivial⟩
            ·refine yld_in [(1000000, .any), (4, .ptr [1, 7] 0), (5, .ptr [2, 7] 0), (6, .ptr [3, 7] 0), (22, .fn (.func 75) [.ptr [0, 18, 7] 0])] 63 [23] (fcode Tryd.f44 [1, 1, 0, 1, 1, 0]) (fcode Tryd.f44 [1, 1, 0, 1, 1, 1]) none (by kernel_rfl) (by kernel_rfl) (fun lp => ?_)
             change AT _ (fcode Tryd.f44 [1, 1, 0, 1, 1, 0]) _ ⟨[(1000000, .any), (23, agF g), (1000000, .any), (4, .ptr [1, 7] 0), (5, .ptr [2, 7] 0), (6, .ptr [3, 7] 0), (22, .fn (.func 75) [.ptr [0, 18, 7] 0])], (b16_19 g f d l), [4, 6, 21, 7], 0⟩
             refine at_Bl [4, 5, 6, 9] [] [] [(1000000, .any), (4, .ptr [1, 7] 0), (5, .ptr [2, 7] 0), (6, .ptr [3, 7] 0), (9, .ptr [0, 4, 6, 21, 7] 0)] (b16_20 g f d l) 2 (by kernel_rfl) ?_ ?_
             ·exact trivial
             refine asg_end [(1000000, .any), (4, .ptr [1, 7] 0), (5, .ptr [2, 7] 0), (6, .ptr [3, 7] 0), (22, .fn (.func 75) [.ptr [0, 18, 7] 0])] 63 [23] (fcode Tryd.f44 [1, 1, 0, 1, 1, 0]) none (by kernel_rfl) (H1 := (b16_18 g f d l)) (by kernel_rfl) ?_
             refine at_block ?_
             refine at_block ?_
             refine at_B [4, 5, 6, 9, 24] [.std, .ret (.b (formedR g))] [PureCall Tryd.prog 71 [agF g] (.b (formedR g))] [(1000000, .any), (4, .ptr [1, 7] 0), (5, .ptr [2, 7] 0), (6, .ptr [3, 7] 0), (9, .ptr [0, 4, 6, 21, 7] 0), (24, .b (!(formedR g)))] (b16_18 g f d l) 6 (by kernel_rfl) ?_ ?_
             ·exact ⟨(c71 g), trivial⟩
             refine at_cond (b := (!(formedR g))) rfl rfl (fun h => ?_) (fun h => ?_)
             rotate_left
             ·exact absurd (h.symm.trans hs_1541) (by decide)
             clear h
             refine at_B [6] [] [] [(1000000, .any), (6, .ptr [3, 7] 0)] (b16_30 g f d l) 7 (by kernel_rfl) ?_ ?_
             ·exact trivial
             refine at_ret ?_
             exact round_ret (q := [4, 6, 21, 7]) [[0, 6, 21, 7], [1, 21, 7], [0, 21, 7], [20, 7], [19, 7], [0, 18, 7], [3, 7], [2, 7], [1, 7], [0, 7], [2], [1], [0]] [(1000000, .any), (4, .ptr [1, 7] 0), (5, .ptr [2, 7] 0), (6, .ptr [3, 7] 0), (22, .fn (.func 75) [.ptr [0, 18, 7] 0])] 63 [23] (fcode Tryd.f44 [1, 1, 0, 1, 1, 0]) (fcode Tryd.f44 [1, 1, 0, 1, 1, 1]) .busy none (by kernel_rfl) rfl (by kernel_rfl)
           refine at_cond (b := true) rfl rfl (fun h => ?_) (fun h => ?_)
           rotate_left
           ·cases h
           clear h
           refine at_B [4] [] [] [(1000000, .any), (4, .b false)] (b16_25 g f d l) 7 (by kernel_rfl) ?_ ?_
           ·exact trivial
           refine at_ret ?_
           exact fin_in (.inr rfl) [[1, 21, 7], [0, 21, 7], [20, 7], [19, 7], [0, 18, 7], [3, 7], [2, 7], [1, 7], [0, 7], [2], [1], [0]] (.b false) [([0, 6, 21, 7], .row ((celF g).map .tv) false), ([1, 21, 7], .row [.fn (.func 76) [.ptr [0, 21, 7] 0, .ptr [1, 21, 7] 0]] false), ([0, 21, 7], .row [.yl [20, 7]] false), ([20, 7], .loop [(1000000, .any), (4, .ptr [1, 7] 0), (5, .ptr [2, 7] 0), (6, .ptr [3, 7] 0), (22, .fn (.func 75) [.ptr [0, 18, 7] 0])] 63 [23] (fcode Tryd.f44 [1, 1, 0, 1, 1, 0]) (fcode Tryd.f44 [1, 1, 0, 1, 1, 1]) .done (some .ret)), ([19, 7], .dfr), ([0, 18, 7], .row ((celF f).map .tv) false), ([3, 7], .row [.i 1] false), ([2, 7], .row [.fn (.func 45) [.ptr [2] 0]] false), ([1, 7], .row ((celD d).map .tv) false), ([0, 7], .row ((celF f).map .tv) false), ([2], .row [.tv (.sli 1 (l.map encStr))] false), ([1], .row ((celD d).map .tv) false), ([0], .row ((celF f).map .tv) false)] (by kernel_rfl) rfl (by show keepH _ _ = [([1, 21, 7], .row [.fn (.func 76) [.ptr [0, 21, 7] 0, .ptr [1, 21, 7] 0]] false), ([0, 21, 7], .row [.yl [20, 7]] false), ([20, 7], .loop [(1000000, .any), (4, .ptr [1, 7] 0), (5, .ptr [2, 7] 0), (6, .ptr [3, 7] 0), (22, .fn (.func 75) [.ptr [0, 18, 7] 0])] 63 [23] (fcode Tryd.f44 [1, 1, 0, 1, 1, 0]) (fcode Tryd.f44 [1, 1, 0, 1, 1, 1]) .done (some .ret)), ([19, 7], .dfr), ([0, 18, 7], .row ((celF f).map .tv) false), ([3, 7], .row [.i (errF (oneR d l false) g)] false), ([2, 7], .row [.fn (.func 45) [.ptr [2] 0]] false), ([1, 7], .row ((celD d).map .tv) false), ([0, 7], .row ((celF f).map .tv) false), ([2], .row [.tv (.sli 1 (l.map encStr))] false), ([1], .row ((celD d).map .tv) false), ([0], .row ((celF f).map .tv) false)]; rw [show errF (oneR d l false) g = _ from (err_at (one_1 hs_1541) (by decide))]; kernel_rfl)
        exact (vis f).1 hs2
      exact fin_in (.inl rfl) [[20, 7], [19, 7], [0, 18, 7], [3, 7], [2, 7], [1, 7], [0, 7], [2], [1], [0]] (.tup []) (b16_34 f d l) (by kernel_rfl) rfl (by kernel_rfl)
     change AT _ _ _ _
     refine at_B [6] [] [] [(1000000, .ds [.ptr [19, 7] 0]), (6, .ptr [3, 7] 0)] (b16_33 f d l) 23 (by kernel_rfl) ?_ ?_
     ·exact trivial
     refine at_ret ?_
     exact fin_in (.inr rfl) [[2], [1], [0]] (.i 0) [([19, 7], .gone), (b16_6 f), b16_8, b16_5, ([1, 7], .row ((celD d).map .tv) false), ([0, 7], .row ((celF f).map .tv) false), (b16_3 l), ([1], .row ((celD d).map .tv) false), ([0], .row ((celF f).map .tv) false)] (by kernel_rfl) rfl (by kernel_rfl)
   refine at_ret ?_
   refine fin0 (.inr rfl) (.i 0) (b16_26 l d f) (.i 0) (H2 := (b16_26 l d f)) (by kernel_rfl) (by kernel_rfl) ?_
   refine Le.of_eq ?_
   first | (rw [checkR, largeR, hs1, cond_false, of_decide_eq_true hs2]; done) | (rw [checkR, largeR, hs1]; rfl)
 ·have qhs1 := hs1
  (try simp only [brs] at qhs1)
  refine at_B [6] [.std, .std, .std, .retH (.i 2) (b16_26 l d f)] [CallOK Tryd.prog 44 [agF f, agD d, .fn (.func 45) [.ptr [2] 0]] (b16_26 l d f) [7] (fun v1 H1 => v1 = (.i 2) ∧ H1 = (b16_26 l d f))] [(1000000, .any), (6, .i 2)] (b16_26 l d f) 9 (by kernel_rfl) ?_ ?_
  ·refine ⟨?_, trivial⟩
   ·refine call_in (fn := Tryd.f44) [.cell 6 36] Tryd.func44 rfl (by kernel_rfl) rfl ?_
    change AT _ _ _ ⟨[(0, agF f), (1, agD d), (2, .fn (.func 45) [.ptr [2] 0])], (b16_26 l d f), [7], 0⟩
    refine at_B [3, 4, 5, 6] [] [] [(1000000, .any), (3, .ptr [0, 7] 0), (4, .ptr [1, 7] 0), (5, .ptr [2, 7] 0), (6, .ptr [3, 7] 0)] (b16_35 d f l) 4 (by kernel_rfl) ?_ ?_
    ·exact trivial
    refine at_seq ?_
    refine at_B [3, 4, 5, 6, 7, 8] [.std, .ret (.tup [.i ((szF f).1), .i ((szF f).2)])] [PureCall Tryd.prog 14 [agF f] (.tup [.i ((szF f).1), .i ((szF f).2)])] [(1000000, .any), (3, .ptr [0, 7] 0), (4, .ptr [1, 7] 0), (5, .ptr [2, 7] 0), (6, .ptr [3, 7] 0), (7, .i ((szF f).1)), (8, .i ((szF f).2))] (b16_35 d f l) 11 (by kernel_rfl) ?_ ?_
    ·exact ⟨(c14 f), trivial⟩
    refine at_B [3, 4, 5, 6, 20] [] [] [(1000000, .any), (3, .ptr [0, 7] 0), (4, .ptr [1, 7] 0), (5, .ptr [2, 7] 0), (6, .ptr [3, 7] 0), (20, .b ((decide ((200 : Int) < (szF f).1)) || (decide ((20 : Int) < (szF f).2))))] (b16_35 d f l) 17 (by kernel_rfl) ?_ ?_
    ·exact trivial
    refine at_cond (b := ((decide ((200 : Int) < (szF f).1)) || (decide ((20 : Int) < (szF f).2)))) rfl rfl (fun h => ?_) (fun h => ?_)
    rotate_left
    ·exact absurd (h.symm.trans hs1) (by decide)
    clear h
    refine at_B [6] [] [] [(1000000, .any), (6, .ptr [3, 7] 0)] (b16_32 d f l) 18 (by kernel_rfl) ?_ ?_
    ·exact trivial
    refine at_ret ?_
    exact fin_in (.inr rfl) [[2], [1], [0]] (.i 2) (b16_32 d f l) (by kernel_rfl) rfl (by kernel_rfl)
  refine at_ret ?_
  refine fin0 (.inr rfl) (.i 2) (b16_26 l d f) (.i 2) (H2 := (b16_26 l d f)) (by kernel_rfl) (by kernel_rfl) ?_
  refine Le.of_eq ?_
  first | (rw [checkR, largeR, hs1, cond_false, of_decide_eq_true hs2]; done) | (rw [checkR, largeR, hs1]; rfl)
end Go.Proofs.YtphmhelkojdlaaaDoor
