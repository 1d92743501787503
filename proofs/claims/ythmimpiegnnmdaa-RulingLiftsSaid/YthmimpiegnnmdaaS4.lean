/- Walks of the small functions. -/
import Derived.Test.YthmimpiegnnmdaaFun4
namespace Go.Proofs.Ythmimpiegnnmdaa
open Go.RowKit
set_option maxRecDepth 10000
set_option linter.unusedSimpArgs false
set_option linter.unusedVariables false

theorem c35 (s : ByteArray)  : PureCall Try.prog 35 [.tv (.str s)] (.tv (.bool (nameP s))) := by
  refine walk0 (fn := Try.f35) [.tmp 2] Try.func35 rfl (by kernel_rfl) rfl (by kernel_rfl) (by kernel_rfl) ?_
  change AT _ _ _ ⟨[(0, .tv (.str s))], [], [], 0⟩
  refine at_strlen 0 rfl (fun hs => ?_)
  refine at_B [0] [] [] [(1000000, .any), (0, .tv (.str s))] [] 1 (by kernel_rfl) ?_ ?_
  · exact trivial
  refine at_seq ?_
  refine at_B [0, 7, 8] [] [] [(1000000, .any), (0, .tv (.str s)), (7, .tv (.int .i64 ((s.size : Nat) : Int))), (8, .tv (.int .i64 0))] [] 4 (by kernel_rfl) ?_ ?_
  · exact trivial
  refine at_block ?_
  refine at_loopR (X := Nat) 0 (fun (i : Nat) => [(1000000, .any), (0, .tv (.str s)), (7, .tv (.int .i64 ((s.size : Nat) : Int))), (8, .tv (.int .i64 ((i : Nat) : Int)))]) (fun (i : Nat) => []) (fun (i : Nat) => i ≤ s.size ∧ ∀ j, j < i → badN s j = false) (fun (i : Nat) => s.size - i) 0 ?_ ?_ ?_
  · exact ⟨Nat.zero_le _, fun j hj => absurd hj (Nat.not_lt_zero j)⟩
  · exact rn_ok [] [] [0, 7, 8] (trivial) (by kernel_rfl)
  · intro i hinv
    obtain ⟨hx1, hx2⟩ := hinv
    refine at_B [0, 7, 8, 9] [] [] [(1000000, .any), (0, .tv (.str s)), (7, .tv (.int .i64 ((s.size : Nat) : Int))), (8, .tv (.int .i64 ((i : Nat) : Int))), (9, .tv (.bool (decide (((i : Nat) : Int) < ((s.size : Nat) : Int)))))] [] 1 (by kernel_rfl) ?_ ?_
    · exact trivial
    refine at_seq ?_
    refine at_cond (b := (decide (((i : Nat) : Int) < ((s.size : Nat) : Int)))) rfl rfl (fun hc9 => ?_) (fun hc9 => ?_)
    · have q9 := hc9
      (try simp only [List.length_map, Bool.and_eq_true, Bool.or_eq_true, Bool.not_eq_true', decide_eq_true_eq, decide_eq_false_iff_not, Bool.and_eq_false_iff, Bool.or_eq_false_iff, Bool.not_eq_false'] at q9)
      refine at_skip ?_
      change AT _ _ _ _
      refine at_seq ?_
      refine at_block ?_
      refine at_B [0, 3, 7, 8] [] [] [(1000000, .any), (0, .tv (.str s)), (3, .tv (.int .i64 ((i : Nat) : Int))), (7, .tv (.int .i64 ((s.size : Nat) : Int))), (8, .tv (.int .i64 ((i : Nat) : Int)))] [] 3 (by kernel_rfl) ?_ ?_
      · exact trivial
      refine at_B [0, 3, 4, 7, 8] [] [(0 ≤ ((i : Nat) : Int) ∧ ((i : Nat) : Int) < ((s.size : Nat) : Int))] [(1000000, .any), (0, .tv (.str s)), (3, .tv (.int .i64 ((i : Nat) : Int))), (4, .tv (.int .u8 (sbyte s ((i : Nat) : Int)))), (7, .tv (.int .i64 ((s.size : Nat) : Int))), (8, .tv (.int .i64 ((i : Nat) : Int)))] [] 7 (by kernel_rfl) ?_ ?_
      · exact ⟨by (try simp only [List.length_map, List.length_append, List.length_cons, List.length_nil, List.length_set] at *); omega, trivial⟩
      refine at_B [0, 3, 4, 5, 7, 8] [] [] [(1000000, .any), (0, .tv (.str s)), (3, .tv (.int .i64 ((i : Nat) : Int))), (4, .tv (.int .u8 (sbyte s ((i : Nat) : Int)))), (5, .tv (.bool (((decide ((97 : Int) ≤ sbyte s ((i : Nat) : Int))) && (decide (sbyte s ((i : Nat) : Int) ≤ (122 : Int)))) || ((decide ((65 : Int) ≤ sbyte s ((i : Nat) : Int))) && (decide (sbyte s ((i : Nat) : Int) ≤ (90 : Int))))))), (7, .tv (.int .i64 ((s.size : Nat) : Int))), (8, .tv (.int .i64 ((i : Nat) : Int)))] [] 22 (by kernel_rfl) ?_ ?_
      · exact trivial
      refine at_B [0, 7, 8, 45] [] [] [(1000000, .any), (0, .tv (.str s)), (7, .tv (.int .i64 ((s.size : Nat) : Int))), (8, .tv (.int .i64 ((i : Nat) : Int))), (45, .tv (.bool ((!(((decide ((97 : Int) ≤ sbyte s ((i : Nat) : Int))) && (decide (sbyte s ((i : Nat) : Int) ≤ (122 : Int)))) || ((decide ((65 : Int) ≤ sbyte s ((i : Nat) : Int))) && (decide (sbyte s ((i : Nat) : Int) ≤ (90 : Int)))))) && ((decide (((i : Nat) : Int) = (0 : Int))) || ((!decide (sbyte s ((i : Nat) : Int) = (95 : Int))) && ((decide (sbyte s ((i : Nat) : Int) < (48 : Int))) || (decide ((57 : Int) < sbyte s ((i : Nat) : Int)))))))))] [] 40 (by kernel_rfl) ?_ ?_
      · exact trivial
      refine at_cond (b := ((!(((decide ((97 : Int) ≤ sbyte s ((i : Nat) : Int))) && (decide (sbyte s ((i : Nat) : Int) ≤ (122 : Int)))) || ((decide ((65 : Int) ≤ sbyte s ((i : Nat) : Int))) && (decide (sbyte s ((i : Nat) : Int) ≤ (90 : Int)))))) && ((decide (((i : Nat) : Int) = (0 : Int))) || ((!decide (sbyte s ((i : Nat) : Int) = (95 : Int))) && ((decide (sbyte s ((i : Nat) : Int) < (48 : Int))) || (decide ((57 : Int) < sbyte s ((i : Nat) : Int)))))))) rfl rfl (fun hc45 => ?_) (fun hc45 => ?_)
      · have q45 := hc45
        (try simp only [List.length_map, Bool.and_eq_true, Bool.or_eq_true, Bool.not_eq_true', decide_eq_true_eq, decide_eq_false_iff_not, Bool.and_eq_false_iff, Bool.or_eq_false_iff, Bool.not_eq_false'] at q45)
        refine at_B [2] [] [] [(1000000, .any), (2, .tv (.bool false))] [] 41 (by kernel_rfl) ?_ ?_
        · exact trivial
        refine at_ret ?_
        refine fin0 (.inr rfl) (.tv (.bool false)) [] (.tv (.bool false)) (H2 := []) (by kernel_rfl) (by kernel_rfl) ?_
        refine Le.of_eq ?_
        rw [nameP_no (i := i) (by omega) hc45]
      · have q45 := hc45
        (try simp only [List.length_map, Bool.and_eq_true, Bool.or_eq_true, Bool.not_eq_true', decide_eq_true_eq, decide_eq_false_iff_not, Bool.and_eq_false_iff, Bool.or_eq_false_iff, Bool.not_eq_false'] at q45)
        refine at_skip ?_
        change AT _ _ _ _
        refine at_Bl [0, 7, 8] [.eq (.tv (.int .i64 ((i + 1 : Nat) : Int)))] [(.tv (.int .i64 (wr (((i : Nat) : Int) + 1))) : AV) = .tv (.int .i64 ((i + 1 : Nat) : Int))] [(1000000, .any), (0, .tv (.str s)), (7, .tv (.int .i64 ((s.size : Nat) : Int))), (8, .tv (.int .i64 ((i + 1 : Nat) : Int)))] [] 42 (by kernel_rfl) ?_ ?_
        · exact ⟨succ_av i (by (try simp only [List.length_map, List.length_append, List.length_cons, List.length_nil, List.length_set] at *); omega), trivial⟩
        refine ⟨rfl, (i + 1), ?_, ?_, ?_⟩
        · (try dsimp only); omega
        · exact ⟨by omega, fun j hj => (if e : j = i then e ▸ hc45 else hx2 j (by omega))⟩
        · exact rn_ok [] [] [0, 7, 8] (trivial) (by kernel_rfl)
    · have q9 := hc9
      (try simp only [List.length_map, Bool.and_eq_true, Bool.or_eq_true, Bool.not_eq_true', decide_eq_true_eq, decide_eq_false_iff_not, Bool.and_eq_false_iff, Bool.or_eq_false_iff, Bool.not_eq_false'] at q9)
      refine at_exit ?_
      change AT _ _ _ _
      refine at_B [2] [] [] [(1000000, .any), (2, .tv (.bool ((decide ((0 : Int) < ((s.size : Nat) : Int))) && (decide (((s.size : Nat) : Int) ≤ (24 : Int))))))] [] 14 (by kernel_rfl) ?_ ?_
      · exact trivial
      refine at_ret ?_
      refine fin0 (.inr rfl) (.tv (.bool ((decide ((0 : Int) < ((s.size : Nat) : Int))) && (decide (((s.size : Nat) : Int) ≤ (24 : Int)))))) [] (.tv (.bool ((decide ((0 : Int) < ((s.size : Nat) : Int))) && (decide (((s.size : Nat) : Int) ≤ (24 : Int)))))) (H2 := []) (by kernel_rfl) (by kernel_rfl) ?_
      refine Le.of_eq ?_
      rw [nameP_yes (n := i) (by omega) hx2]
theorem c46 (n : Int)  : PureCall Try.prog 46 [.tv (.int .i64 n)] (.tv (.bool (badDay n))) := by
  refine walk0 (fn := Try.f46) [.tmp 2] Try.func46 rfl (by kernel_rfl) rfl (by kernel_rfl) (by kernel_rfl) ?_
  change AT _ _ _ ⟨[(0, .tv (.int .i64 n))], [], [], 0⟩
  refine at_B [0] [] [] [(1000000, .any), (0, .tv (.int .i64 n))] [] 1 (by kernel_rfl) ?_ ?_
  · exact trivial
  refine at_B [2] [] [] [(1000000, .any), (2, .tv (.bool ((decide (n < (0 : Int))) || (decide ((1000000 : Int) < n)))))] [] 8 (by kernel_rfl) ?_ ?_
  · exact trivial
  refine at_ret ?_
  refine fin0 (.inr rfl) (.tv (.bool ((decide (n < (0 : Int))) || (decide ((1000000 : Int) < n))))) [] (.tv (.bool ((decide (n < (0 : Int))) || (decide ((1000000 : Int) < n))))) (H2 := []) (by kernel_rfl) (by kernel_rfl) ?_
  refine Le.of_eq ?_
  first | rfl | (simp only [*])
theorem c53 (l : (List Int))  : PureCall Try.prog 53 [.tv (.sli 1 (l.map encI)), .tv (.fn 46)] (.tv (.int .i64 (idxF badDay l 0))) := by
  refine walk0 (fn := Try.f53) [.tmp 4] Try.func53 rfl (by kernel_rfl) rfl (by kernel_rfl) (by kernel_rfl) ?_
  change AT _ _ _ ⟨[(0, .tv (.sli 1 (l.map encI))), (1, .tv (.fn 46))], [], [], 0⟩
  refine at_len 0 rfl (fun hlen => ?_)
  refine at_B [0, 1] [] [] [(1000000, .any), (0, .tv (.sli 1 (l.map encI))), (1, .tv (.fn 46))] [] 1 (by kernel_rfl) ?_ ?_
  · exact trivial
  refine at_seq ?_
  refine at_B [0, 1, 7, 8] [] [] [(1000000, .any), (0, .tv (.sli 1 (l.map encI))), (1, .tv (.fn 46)), (7, .tv (.int .i64 (((l.map encI).length : Nat) : Int))), (8, .tv (.int .i64 0))] [] 4 (by kernel_rfl) ?_ ?_
  · exact trivial
  refine at_block ?_
  refine at_loopR (X := Nat) 0 (fun (i : Nat) => [(1000000, .any), (0, .tv (.sli 1 (l.map encI))), (1, .tv (.fn 46)), (7, .tv (.int .i64 (((l.map encI).length : Nat) : Int))), (8, .tv (.int .i64 ((i : Nat) : Int)))]) (fun (i : Nat) => []) (fun (i : Nat) => i ≤ l.length ∧ idxF badDay (l.drop i) i = idxF badDay l 0) (fun (i : Nat) => l.length - i) 0 ?_ ?_ ?_
  · exact ⟨Nat.zero_le _, rfl⟩
  · exact rn_ok [] [] [0, 1, 7, 8] (trivial) (by kernel_rfl)
  · intro i hinv
    obtain ⟨hx1, hx2⟩ := hinv
    refine at_B [0, 1, 7, 8, 9] [] [] [(1000000, .any), (0, .tv (.sli 1 (l.map encI))), (1, .tv (.fn 46)), (7, .tv (.int .i64 (((l.map encI).length : Nat) : Int))), (8, .tv (.int .i64 ((i : Nat) : Int))), (9, .tv (.bool (decide (((i : Nat) : Int) < (((l.map encI).length : Nat) : Int)))))] [] 1 (by kernel_rfl) ?_ ?_
    · exact trivial
    refine at_seq ?_
    refine at_cond (b := (decide (((i : Nat) : Int) < (((l.map encI).length : Nat) : Int)))) rfl rfl (fun hc9 => ?_) (fun hc9 => ?_)
    · have q9 := hc9
      (try simp only [List.length_map, Bool.and_eq_true, Bool.or_eq_true, Bool.not_eq_true', decide_eq_true_eq, decide_eq_false_iff_not, Bool.and_eq_false_iff, Bool.or_eq_false_iff, Bool.not_eq_false'] at q9)
      refine at_skip ?_
      change AT _ _ _ _
      refine at_seq ?_
      refine at_block ?_
      refine at_B [0, 1, 5, 7, 8] [] [] [(1000000, .any), (0, .tv (.sli 1 (l.map encI))), (1, .tv (.fn 46)), (5, .tv (.int .i64 ((i : Nat) : Int))), (7, .tv (.int .i64 (((l.map encI).length : Nat) : Int))), (8, .tv (.int .i64 ((i : Nat) : Int)))] [] 3 (by kernel_rfl) ?_ ?_
      · exact trivial
      refine at_B [0, 1, 5, 7, 8, 16] [.std, .std, .std, .eq (.tv (.ptr [.int .i64 (l.getD i 0)])), .std, .ret (.tv (.bool (badDay (l.getD i 0))))] [(0 ≤ ((i : Nat) : Int) ∧ ((i : Nat) : Int) < ((((l.map encI) : List (List TV)).length : Nat) : Int)), (.tv (.ptr (rowAt (l.map encI) ((i : Nat) : Int))) : AV) = .tv (.ptr [.int .i64 (l.getD i 0)]), PureCall Try.prog 46 [.tv (.int .i64 (l.getD i 0))] (.tv (.bool (badDay (l.getD i 0))))] [(1000000, .any), (0, .tv (.sli 1 (l.map encI))), (1, .tv (.fn 46)), (5, .tv (.int .i64 ((i : Nat) : Int))), (7, .tv (.int .i64 (((l.map encI).length : Nat) : Int))), (8, .tv (.int .i64 ((i : Nat) : Int))), (16, .tv (.bool (badDay (l.getD i 0))))] [] 9 (by kernel_rfl) ?_ ?_
      · exact ⟨by (try simp only [List.length_map, List.length_append, List.length_cons, List.length_nil, List.length_set] at *); omega, congrArg (fun c => AV.tv (.ptr c)) (row_enc encI l ((i : Nat) : Int) 0 (by (try simp only [List.length_map, Bool.and_eq_true, Bool.or_eq_true, Bool.not_eq_true', decide_eq_true_eq, decide_eq_false_iff_not, Bool.and_eq_false_iff, Bool.or_eq_false_iff, Bool.not_eq_false', List.length_append, List.length_cons, List.length_nil, List.length_set] at *); omega)), (c46 (l.getD i 0)), trivial⟩
      refine at_cond (b := (badDay (l.getD i 0))) rfl rfl (fun hc16 => ?_) (fun hc16 => ?_)
      · have q16 := hc16
        (try simp only [List.length_map, Bool.and_eq_true, Bool.or_eq_true, Bool.not_eq_true', decide_eq_true_eq, decide_eq_false_iff_not, Bool.and_eq_false_iff, Bool.or_eq_false_iff, Bool.not_eq_false'] at q16)
        refine at_B [4] [] [] [(1000000, .any), (4, .tv (.int .i64 ((i : Nat) : Int)))] [] 11 (by kernel_rfl) ?_ ?_
        · exact trivial
        refine at_ret ?_
        refine fin0 (.inr rfl) (.tv (.int .i64 ((i : Nat) : Int))) [] (.tv (.int .i64 ((i : Nat) : Int))) (H2 := []) (by kernel_rfl) (by kernel_rfl) ?_
        refine Le.of_eq ?_
        rw [idx_stop (i := i) 0 (by omega) hx2 hc16]
      · have q16 := hc16
        (try simp only [List.length_map, Bool.and_eq_true, Bool.or_eq_true, Bool.not_eq_true', decide_eq_true_eq, decide_eq_false_iff_not, Bool.and_eq_false_iff, Bool.or_eq_false_iff, Bool.not_eq_false'] at q16)
        refine at_skip ?_
        change AT _ _ _ _
        refine at_Bl [0, 1, 7, 8] [.eq (.tv (.int .i64 ((i + 1 : Nat) : Int)))] [(.tv (.int .i64 (wr (((i : Nat) : Int) + 1))) : AV) = .tv (.int .i64 ((i + 1 : Nat) : Int))] [(1000000, .any), (0, .tv (.sli 1 (l.map encI))), (1, .tv (.fn 46)), (7, .tv (.int .i64 (((l.map encI).length : Nat) : Int))), (8, .tv (.int .i64 ((i + 1 : Nat) : Int)))] [] 11 (by kernel_rfl) ?_ ?_
        · exact ⟨succ_av i (by (try simp only [List.length_map, List.length_append, List.length_cons, List.length_nil, List.length_set] at *); omega), trivial⟩
        refine ⟨rfl, (i + 1), ?_, ?_, ?_⟩
        · (try dsimp only); omega
        · exact ⟨by omega, idx_step 0 (by omega) hx2 hc16⟩
        · exact rn_ok [] [] [0, 1, 7, 8] (trivial) (by kernel_rfl)
    · have q9 := hc9
      (try simp only [List.length_map, Bool.and_eq_true, Bool.or_eq_true, Bool.not_eq_true', decide_eq_true_eq, decide_eq_false_iff_not, Bool.and_eq_false_iff, Bool.or_eq_false_iff, Bool.not_eq_false'] at q9)
      refine at_exit ?_
      change AT _ _ _ _
      refine at_B [4] [] [] [(1000000, .any), (4, .tv (.int .i64 (-1)))] [] 6 (by kernel_rfl) ?_ ?_
      · exact trivial
      refine at_ret ?_
      refine fin0 (.inr rfl) (.tv (.int .i64 (-1))) [] (.tv (.int .i64 (-1))) (H2 := []) (by kernel_rfl) (by kernel_rfl) ?_
      refine Le.of_eq ?_
      rw [idx_end (i := i) (by omega) hx2]
theorem c45 (l : (List Int))  : PureCall Try.prog 45 [.tv (.sli 1 (l.map encI)), .tv (.fn 46)] (.tv (.bool (List.any l badDay))) := by
  refine walk0 (fn := Try.f45) [.tmp 4] Try.func45 rfl (by kernel_rfl) rfl (by kernel_rfl) (by kernel_rfl) ?_
  change AT _ _ _ ⟨[(0, .tv (.sli 1 (l.map encI))), (1, .tv (.fn 46))], [], [], 0⟩
  refine at_B [0, 1] [] [] [(1000000, .any), (0, .tv (.sli 1 (l.map encI))), (1, .tv (.fn 46))] [] 1 (by kernel_rfl) ?_ ?_
  · exact trivial
  refine at_B [4] [.std, .std, .ret (.tv (.int .i64 (idxF badDay l 0)))] [PureCall Try.prog 53 [.tv (.sli 1 (l.map encI)), .tv (.fn 46)] (.tv (.int .i64 (idxF badDay l 0)))] [(1000000, .any), (4, .tv (.bool (decide ((0 : Int) ≤ (idxF badDay l 0)))))] [] 6 (by kernel_rfl) ?_ ?_
  · exact ⟨(c53 l), trivial⟩
  refine at_ret ?_
  refine fin0 (.inr rfl) (.tv (.bool (decide ((0 : Int) ≤ (idxF badDay l 0))))) [] (.tv (.bool (decide ((0 : Int) ≤ (idxF badDay l 0))))) (H2 := []) (by kernel_rfl) (by kernel_rfl) ?_
  refine Le.of_eq ?_
  rw [← idx_any _ _ 0]
theorem c28 (l : (List Int))  : PureCall Try.prog 28 [.tv (.sli 1 (l.map encI))] (.tv (.bool (daysP l))) := by
  refine walk0 (fn := Try.f28) [.tmp 2] Try.func28 rfl (by kernel_rfl) rfl (by kernel_rfl) (by kernel_rfl) ?_
  change AT _ _ _ ⟨[(0, .tv (.sli 1 (l.map encI)))], [], [], 0⟩
  refine at_B [0] [] [] [(1000000, .any), (0, .tv (.sli 1 (l.map encI)))] [] 1 (by kernel_rfl) ?_ ?_
  · exact trivial
  refine at_B [2] [.std, .ret (.tv (.bool (List.any l badDay)))] [PureCall Try.prog 45 [.tv (.sli 1 (l.map encI)), .tv (.fn 46)] (.tv (.bool (List.any l badDay)))] [(1000000, .any), (2, .tv (.bool (!(List.any l badDay))))] [] 5 (by kernel_rfl) ?_ ?_
  · exact ⟨(c45 l), trivial⟩
  refine at_ret ?_
  refine fin0 (.inr rfl) (.tv (.bool (!(List.any l badDay)))) [] (.tv (.bool (!(List.any l badDay)))) (H2 := []) (by kernel_rfl) (by kernel_rfl) ?_
  refine Le.of_eq ?_
  first | rfl | (simp only [*])
def validP (r : Ru) : Bool := bif (((!(nameP r.id)) || (!(nameP r.tg))) || (!(daysP ([r.a, r.b, r.kn])))) then (false) else (bif (decide (r.kd = (6 : Int))) then ((nameP r.lf)) else (bif (decide (r.kd = (4 : Int))) then (((decide (r.lf = ⟨#[]⟩)) && (decide (r.a < r.b)))) else (bif (decide (r.kd = (5 : Int))) then ((((decide (r.lf = ⟨#[]⟩)) && (decide ((szF r.f).1 ≤ (200 : Int)))) && (decide ((szF r.f).2 ≤ (20 : Int))))) else (bif (bif (decide (r.kd = (1 : Int))) then (decide (r.kd = (1 : Int))) else (bif (decide (r.kd = (2 : Int))) then (decide (r.kd = (2 : Int))) else (decide (r.kd = (3 : Int))))) then ((decide (r.lf = ⟨#[]⟩))) else (false)))))
theorem c15 (r : Ru)  : PureCall Try.prog 15 [agR r] (.tv (.bool (validP r))) := by
  refine walk0 (fn := Try.f15) [.tmp 2] Try.func15 rfl (by kernel_rfl) rfl (by kernel_rfl) (by kernel_rfl) ?_
  change AT _ _ _ ⟨[(0, agR r)], [], [], 0⟩
  refine at_B [1] [] [] [(1000000, .any), (1, .ptr [0] 0)] [([0], .row ((celR r).map .tv) false)] 2 (by kernel_rfl) ?_ ?_
  · exact trivial
  refine at_seq ?_
  refine at_B [1, 25] [.std, .std, .ret (.tv (.bool (nameP r.id))), .std, .std, .std, .std, .ret (.tv (.bool (nameP r.tg))), .std, .std, .std, .std, .std, .std, .std, .std, .std, .eq (.tv (.sli 1 (([r.a, r.b, r.kn] : List _).map encI))), .ret (.tv (.bool (daysP ([r.a, r.b, r.kn]))))] [PureCall Try.prog 35 [.tv (.str r.id)] (.tv (.bool (nameP r.id))), ((!(nameP r.id)) = false) → PureCall Try.prog 35 [.tv (.str r.tg)] (.tv (.bool (nameP r.tg))), (((!(nameP r.id)) || (!(nameP r.tg))) = false) → (.tv (.sli 1 [[.int .i64 r.a], [.int .i64 r.b], [.int .i64 r.kn]]) : AV) = .tv (.sli 1 (([r.a, r.b, r.kn] : List _).map encI)), (((!(nameP r.id)) || (!(nameP r.tg))) = false) → PureCall Try.prog 28 [.tv (.sli 1 (([r.a, r.b, r.kn] : List _).map encI))] (.tv (.bool (daysP ([r.a, r.b, r.kn]))))] [(1000000, .any), (1, .ptr [0] 0), (25, .tv (.bool (((!(nameP r.id)) || (!(nameP r.tg))) || (!(daysP ([r.a, r.b, r.kn]))))))] [([0], .row ((celR r).map .tv) false)] 23 (by kernel_rfl) ?_ ?_
  · exact ⟨(c35 r.id), fun hg0 => (c35 r.tg), fun hg0 => rfl, fun hg0 => (c28 [r.a, r.b, r.kn]), trivial⟩
  refine at_cond (b := (((!(nameP r.id)) || (!(nameP r.tg))) || (!(daysP ([r.a, r.b, r.kn]))))) rfl rfl (fun hc25 => ?_) (fun hc25 => ?_)
  · have q25 := hc25
    (try simp only [List.length_map, Bool.and_eq_true, Bool.or_eq_true, Bool.not_eq_true', decide_eq_true_eq, decide_eq_false_iff_not, Bool.and_eq_false_iff, Bool.or_eq_false_iff, Bool.not_eq_false'] at q25)
    refine at_B [2] [] [] [(1000000, .any), (2, .tv (.bool false))] [([0], .row ((celR r).map .tv) false)] 24 (by kernel_rfl) ?_ ?_
    · exact trivial
    refine at_ret ?_
    refine fin0 (.inr rfl) (.tv (.bool false)) [([0], .row ((celR r).map .tv) false)] (.tv (.bool false)) (H2 := [([0], .row ((celR r).map .tv) false)]) (by kernel_rfl) (by kernel_rfl) ?_
    refine Le.of_eq ?_
    first | rfl | (simp only [validP, hc25, cond_true, cond_false]; done) | (simp only [validP, hc25, cond_true, cond_false]; rfl)
  · have q25 := hc25
    (try simp only [List.length_map, Bool.and_eq_true, Bool.or_eq_true, Bool.not_eq_true', decide_eq_true_eq, decide_eq_false_iff_not, Bool.and_eq_false_iff, Bool.or_eq_false_iff, Bool.not_eq_false'] at q25)
    refine at_skip ?_
    change AT _ _ _ _
    refine at_seq ?_
    refine at_B [1, 27] [] [] [(1000000, .any), (1, .ptr [0] 0), (27, .tv (.int .i64 r.kd))] [([0], .row ((celR r).map .tv) false)] 25 (by kernel_rfl) ?_ ?_
    · exact trivial
    refine at_block ?_
    refine at_B [1, 27, 28] [] [] [(1000000, .any), (1, .ptr [0] 0), (27, .tv (.int .i64 r.kd)), (28, .tv (.bool (decide (r.kd = (6 : Int)))))] [([0], .row ((celR r).map .tv) false)] 27 (by kernel_rfl) ?_ ?_
    · exact trivial
    refine at_cond (b := (decide (r.kd = (6 : Int)))) rfl rfl (fun hc28 => ?_) (fun hc28 => ?_)
    · have q28 := hc28
      (try simp only [List.length_map, Bool.and_eq_true, Bool.or_eq_true, Bool.not_eq_true', decide_eq_true_eq, decide_eq_false_iff_not, Bool.and_eq_false_iff, Bool.or_eq_false_iff, Bool.not_eq_false'] at q28)
      refine at_B [2] [.std, .std, .ret (.tv (.bool (nameP r.lf)))] [PureCall Try.prog 35 [.tv (.str r.lf)] (.tv (.bool (nameP r.lf)))] [(1000000, .any), (2, .tv (.bool (nameP r.lf)))] [([0], .row ((celR r).map .tv) false)] 31 (by kernel_rfl) ?_ ?_
      · exact ⟨(c35 r.lf), trivial⟩
      refine at_ret ?_
      refine fin0 (.inr rfl) (.tv (.bool (nameP r.lf))) [([0], .row ((celR r).map .tv) false)] (.tv (.bool (nameP r.lf))) (H2 := [([0], .row ((celR r).map .tv) false)]) (by kernel_rfl) (by kernel_rfl) ?_
      refine Le.of_eq ?_
      first | rfl | (simp only [validP, hc25, hc28, cond_true, cond_false]; done) | (simp only [validP, hc25, hc28, cond_true, cond_false]; rfl)
    · have q28 := hc28
      (try simp only [List.length_map, Bool.and_eq_true, Bool.or_eq_true, Bool.not_eq_true', decide_eq_true_eq, decide_eq_false_iff_not, Bool.and_eq_false_iff, Bool.or_eq_false_iff, Bool.not_eq_false'] at q28)
      refine at_B [1, 27, 33] [] [] [(1000000, .any), (1, .ptr [0] 0), (27, .tv (.int .i64 r.kd)), (33, .tv (.bool (decide (r.kd = (4 : Int)))))] [([0], .row ((celR r).map .tv) false)] 29 (by kernel_rfl) ?_ ?_
      · exact trivial
      refine at_cond (b := (decide (r.kd = (4 : Int)))) rfl rfl (fun hc33 => ?_) (fun hc33 => ?_)
      · have q33 := hc33
        (try simp only [List.length_map, Bool.and_eq_true, Bool.or_eq_true, Bool.not_eq_true', decide_eq_true_eq, decide_eq_false_iff_not, Bool.and_eq_false_iff, Bool.or_eq_false_iff, Bool.not_eq_false'] at q33)
        refine at_B [2] [] [] [(1000000, .any), (2, .tv (.bool ((decide (r.lf = ⟨#[]⟩)) && (decide (r.a < r.b)))))] [([0], .row ((celR r).map .tv) false)] 40 (by kernel_rfl) ?_ ?_
        · exact trivial
        refine at_ret ?_
        refine fin0 (.inr rfl) (.tv (.bool ((decide (r.lf = ⟨#[]⟩)) && (decide (r.a < r.b))))) [([0], .row ((celR r).map .tv) false)] (.tv (.bool ((decide (r.lf = ⟨#[]⟩)) && (decide (r.a < r.b))))) (H2 := [([0], .row ((celR r).map .tv) false)]) (by kernel_rfl) (by kernel_rfl) ?_
        refine Le.of_eq ?_
        first | rfl | (simp only [validP, hc25, hc28, hc33, cond_true, cond_false]; done) | (simp only [validP, hc25, hc28, hc33, cond_true, cond_false]; rfl)
      · have q33 := hc33
        (try simp only [List.length_map, Bool.and_eq_true, Bool.or_eq_true, Bool.not_eq_true', decide_eq_true_eq, decide_eq_false_iff_not, Bool.and_eq_false_iff, Bool.or_eq_false_iff, Bool.not_eq_false'] at q33)
        refine at_B [1, 27, 45] [] [] [(1000000, .any), (1, .ptr [0] 0), (27, .tv (.int .i64 r.kd)), (45, .tv (.bool (decide (r.kd = (5 : Int)))))] [([0], .row ((celR r).map .tv) false)] 31 (by kernel_rfl) ?_ ?_
        · exact trivial
        refine at_cond (b := (decide (r.kd = (5 : Int)))) rfl rfl (fun hc45 => ?_) (fun hc45 => ?_)
        · have q45 := hc45
          (try simp only [List.length_map, Bool.and_eq_true, Bool.or_eq_true, Bool.not_eq_true', decide_eq_true_eq, decide_eq_false_iff_not, Bool.and_eq_false_iff, Bool.or_eq_false_iff, Bool.not_eq_false'] at q45)
          refine at_B [1, 3, 4] [.std, .std, .ret (.tup [.tv (.int .i64 ((szF r.f).1)), .tv (.int .i64 ((szF r.f).2))])] [PureCall Try.prog 36 [agF r.f] (.tup [.tv (.int .i64 ((szF r.f).1)), .tv (.int .i64 ((szF r.f).2))])] [(1000000, .any), (1, .ptr [0] 0), (3, .tv (.int .i64 ((szF r.f).1))), (4, .tv (.int .i64 ((szF r.f).2)))] [([0], .row ((celR r).map .tv) false)] 39 (by kernel_rfl) ?_ ?_
          · exact ⟨(c36 r.f), trivial⟩
          refine at_B [2] [] [] [(1000000, .any), (2, .tv (.bool (((decide (r.lf = ⟨#[]⟩)) && (decide ((szF r.f).1 ≤ (200 : Int)))) && (decide ((szF r.f).2 ≤ (20 : Int))))))] [([0], .row ((celR r).map .tv) false)] 51 (by kernel_rfl) ?_ ?_
          · exact trivial
          refine at_ret ?_
          refine fin0 (.inr rfl) (.tv (.bool (((decide (r.lf = ⟨#[]⟩)) && (decide ((szF r.f).1 ≤ (200 : Int)))) && (decide ((szF r.f).2 ≤ (20 : Int)))))) [([0], .row ((celR r).map .tv) false)] (.tv (.bool (((decide (r.lf = ⟨#[]⟩)) && (decide ((szF r.f).1 ≤ (200 : Int)))) && (decide ((szF r.f).2 ≤ (20 : Int)))))) (H2 := [([0], .row ((celR r).map .tv) false)]) (by kernel_rfl) (by kernel_rfl) ?_
          refine Le.of_eq ?_
          first | rfl | (simp only [validP, hc25, hc28, hc33, hc45, cond_true, cond_false]; done) | (simp only [validP, hc25, hc28, hc33, hc45, cond_true, cond_false]; rfl)
        · have q45 := hc45
          (try simp only [List.length_map, Bool.and_eq_true, Bool.or_eq_true, Bool.not_eq_true', decide_eq_true_eq, decide_eq_false_iff_not, Bool.and_eq_false_iff, Bool.or_eq_false_iff, Bool.not_eq_false'] at q45)
          refine at_seq ?_
          refine at_B [1, 27, 64] [] [] [(1000000, .any), (1, .ptr [0] 0), (27, .tv (.int .i64 r.kd)), (64, .tv (.bool (decide (r.kd = (1 : Int)))))] [([0], .row ((celR r).map .tv) false)] 33 (by kernel_rfl) ?_ ?_
          · exact trivial
          refine at_mergel (p := []) [(1000000, .any), (1, .ptr [0] 0), (64, .tv (.bool (bif (decide (r.kd = (1 : Int))) then (decide (r.kd = (1 : Int))) else (bif (decide (r.kd = (2 : Int))) then (decide (r.kd = (2 : Int))) else (decide (r.kd = (3 : Int)))))))] [([0], .row ((celR r).map .tv) false)] 37 ?_ ?_
          · refine at_cond (b := (decide (r.kd = (1 : Int)))) rfl rfl (fun hc64 => ?_) (fun hc64 => ?_)
            · skip
              refine at_skip ?_
              exact gh_merge [1, 64] [[0]] (Eq.trans (b := [(1000000, .any), (1, .ptr [0] 0), (64, .tv (.bool (decide (r.kd = (1 : Int)))))]) (by kernel_rfl) (by simp only [hc64, cond_true, cond_false]; try rfl)) (by kernel_rfl) (by kernel_rfl)
            · skip
              refine at_B [1, 27, 64] [] [] [(1000000, .any), (1, .ptr [0] 0), (27, .tv (.int .i64 r.kd)), (64, .tv (.bool (decide (r.kd = (2 : Int)))))] [([0], .row ((celR r).map .tv) false)] 35 (by kernel_rfl) ?_ ?_
              · exact trivial
              refine at_mergel (p := []) [(1000000, .any), (1, .ptr [0] 0), (64, .tv (.bool (bif (decide (r.kd = (2 : Int))) then (decide (r.kd = (2 : Int))) else (decide (r.kd = (3 : Int))))))] [([0], .row ((celR r).map .tv) false)] 37 ?_ ?_
              · refine at_cond (b := (decide (r.kd = (2 : Int)))) rfl rfl (fun hc64 => ?_) (fun hc64 => ?_)
                · skip
                  refine at_skip ?_
                  exact gh_merge [1, 64] [[0]] (Eq.trans (b := [(1000000, .any), (1, .ptr [0] 0), (64, .tv (.bool (decide (r.kd = (2 : Int)))))]) (by kernel_rfl) (by simp only [hc64, cond_true, cond_false]; try rfl)) (by kernel_rfl) (by kernel_rfl)
                · skip
                  refine at_Bl [1, 64] [] [] [(1000000, .any), (1, .ptr [0] 0), (64, .tv (.bool (decide (r.kd = (3 : Int)))))] [([0], .row ((celR r).map .tv) false)] 37 (by kernel_rfl) ?_ ?_
                  · exact trivial
                  exact gh_merge [1, 64] [[0]] (Eq.trans (b := [(1000000, .any), (1, .ptr [0] 0), (64, .tv (.bool (decide (r.kd = (3 : Int)))))]) (by kernel_rfl) (by simp only [hc64, cond_true, cond_false]; try rfl)) (by kernel_rfl) (by kernel_rfl)
              exact gh_merge [1, 64] [[0]] (Eq.trans (b := [(1000000, .any), (1, .ptr [0] 0), (64, .tv (.bool (bif (decide (r.kd = (2 : Int))) then (decide (r.kd = (2 : Int))) else (decide (r.kd = (3 : Int))))))]) (by kernel_rfl) (by simp only [hc64, cond_true, cond_false]; try rfl)) (by kernel_rfl) (by kernel_rfl)
          change AT _ _ _ _
          refine at_cond (b := (bif (decide (r.kd = (1 : Int))) then (decide (r.kd = (1 : Int))) else (bif (decide (r.kd = (2 : Int))) then (decide (r.kd = (2 : Int))) else (decide (r.kd = (3 : Int)))))) rfl rfl (fun hc64 => ?_) (fun hc64 => ?_)
          · have q64 := hc64
            (try simp only [List.length_map, Bool.and_eq_true, Bool.or_eq_true, Bool.not_eq_true', decide_eq_true_eq, decide_eq_false_iff_not, Bool.and_eq_false_iff, Bool.or_eq_false_iff, Bool.not_eq_false'] at q64)
            refine at_B [2] [] [] [(1000000, .any), (2, .tv (.bool (decide (r.lf = ⟨#[]⟩))))] [([0], .row ((celR r).map .tv) false)] 41 (by kernel_rfl) ?_ ?_
            · exact trivial
            refine at_ret ?_
            refine fin0 (.inr rfl) (.tv (.bool (decide (r.lf = ⟨#[]⟩)))) [([0], .row ((celR r).map .tv) false)] (.tv (.bool (decide (r.lf = ⟨#[]⟩)))) (H2 := [([0], .row ((celR r).map .tv) false)]) (by kernel_rfl) (by kernel_rfl) ?_
            refine Le.of_eq ?_
            first | rfl | (simp only [validP, hc25, hc28, hc33, hc45, hc64, cond_true, cond_false]; done) | (simp only [validP, hc25, hc28, hc33, hc45, hc64, cond_true, cond_false]; rfl)
          · have q64 := hc64
            (try simp only [List.length_map, Bool.and_eq_true, Bool.or_eq_true, Bool.not_eq_true', decide_eq_true_eq, decide_eq_false_iff_not, Bool.and_eq_false_iff, Bool.or_eq_false_iff, Bool.not_eq_false'] at q64)
            refine at_skip ?_
            change AT _ _ _ _
            refine at_B [2] [] [] [(1000000, .any), (2, .tv (.bool false))] [([0], .row ((celR r).map .tv) false)] 38 (by kernel_rfl) ?_ ?_
            · exact trivial
            refine at_ret ?_
            refine fin0 (.inr rfl) (.tv (.bool false)) [([0], .row ((celR r).map .tv) false)] (.tv (.bool false)) (H2 := [([0], .row ((celR r).map .tv) false)]) (by kernel_rfl) (by kernel_rfl) ?_
            refine Le.of_eq ?_
            first | rfl | (simp only [validP, hc25, hc28, hc33, hc45, hc64, cond_true, cond_false]; done) | (simp only [validP, hc25, hc28, hc33, hc45, hc64, cond_true, cond_false]; rfl)
def notValid (r : Ru) : Bool := !validP r
theorem c30 (r : Ru)  : PureCall Try.prog 30 [agR r] (.tv (.bool (notValid r))) := by
  refine walk0 (fn := Try.f30) [.tmp 2] Try.func30 rfl (by kernel_rfl) rfl (by kernel_rfl) (by kernel_rfl) ?_
  change AT _ _ _ ⟨[(0, agR r)], [], [], 0⟩
  refine at_B [1] [] [] [(1000000, .any), (1, .ptr [0] 0)] [([0], .row ((celR r).map .tv) false)] 2 (by kernel_rfl) ?_ ?_
  · exact trivial
  refine at_B [2] [.std, .ret (.tv (.bool (validP r)))] [PureCall Try.prog 15 [agR r] (.tv (.bool (validP r)))] [(1000000, .any), (2, .tv (.bool (!(validP r))))] [([0], .row ((celR r).map .tv) false)] 6 (by kernel_rfl) ?_ ?_
  · exact ⟨(c15 r), trivial⟩
  refine at_ret ?_
  refine fin0 (.inr rfl) (.tv (.bool (!(validP r)))) [([0], .row ((celR r).map .tv) false)] (.tv (.bool (!(validP r)))) (H2 := [([0], .row ((celR r).map .tv) false)]) (by kernel_rfl) (by kernel_rfl) ?_
  refine Le.of_eq ?_
  first | rfl | (simp only [*])
theorem c47 (l : (List Ru))  : PureCall Try.prog 47 [.tv (.sli 13 (l.map celR)), .tv (.fn 30)] (.tv (.int .i64 (idxF notValid l 0))) := by
  refine walk0 (fn := Try.f47) [.tmp 4] Try.func47 rfl (by kernel_rfl) rfl (by kernel_rfl) (by kernel_rfl) ?_
  change AT _ _ _ ⟨[(0, .tv (.sli 13 (l.map celR))), (1, .tv (.fn 30))], [], [], 0⟩
  refine at_len 0 rfl (fun hlen => ?_)
  refine at_B [0, 1] [] [] [(1000000, .any), (0, .tv (.sli 13 (l.map celR))), (1, .tv (.fn 30))] [] 1 (by kernel_rfl) ?_ ?_
  · exact trivial
  refine at_seq ?_
  refine at_B [0, 1, 7, 8] [] [] [(1000000, .any), (0, .tv (.sli 13 (l.map celR))), (1, .tv (.fn 30)), (7, .tv (.int .i64 (((l.map celR).length : Nat) : Int))), (8, .tv (.int .i64 0))] [] 4 (by kernel_rfl) ?_ ?_
  · exact trivial
  refine at_block ?_
  refine at_loopR (X := Nat) 0 (fun (i : Nat) => [(1000000, .any), (0, .tv (.sli 13 (l.map celR))), (1, .tv (.fn 30)), (7, .tv (.int .i64 (((l.map celR).length : Nat) : Int))), (8, .tv (.int .i64 ((i : Nat) : Int)))]) (fun (i : Nat) => []) (fun (i : Nat) => i ≤ l.length ∧ idxF notValid (l.drop i) i = idxF notValid l 0) (fun (i : Nat) => l.length - i) 0 ?_ ?_ ?_
  · exact ⟨Nat.zero_le _, rfl⟩
  · exact rn_ok [] [] [0, 1, 7, 8] (trivial) (by kernel_rfl)
  · intro i hinv
    obtain ⟨hx1, hx2⟩ := hinv
    refine at_B [0, 1, 7, 8, 9] [] [] [(1000000, .any), (0, .tv (.sli 13 (l.map celR))), (1, .tv (.fn 30)), (7, .tv (.int .i64 (((l.map celR).length : Nat) : Int))), (8, .tv (.int .i64 ((i : Nat) : Int))), (9, .tv (.bool (decide (((i : Nat) : Int) < (((l.map celR).length : Nat) : Int)))))] [] 1 (by kernel_rfl) ?_ ?_
    · exact trivial
    refine at_seq ?_
    refine at_cond (b := (decide (((i : Nat) : Int) < (((l.map celR).length : Nat) : Int)))) rfl rfl (fun hc9 => ?_) (fun hc9 => ?_)
    · have q9 := hc9
      (try simp only [List.length_map, Bool.and_eq_true, Bool.or_eq_true, Bool.not_eq_true', decide_eq_true_eq, decide_eq_false_iff_not, Bool.and_eq_false_iff, Bool.or_eq_false_iff, Bool.not_eq_false'] at q9)
      refine at_skip ?_
      change AT _ _ _ _
      refine at_seq ?_
      refine at_block ?_
      refine at_B [0, 1, 5, 7, 8] [] [] [(1000000, .any), (0, .tv (.sli 13 (l.map celR))), (1, .tv (.fn 30)), (5, .tv (.int .i64 ((i : Nat) : Int))), (7, .tv (.int .i64 (((l.map celR).length : Nat) : Int))), (8, .tv (.int .i64 ((i : Nat) : Int)))] [] 3 (by kernel_rfl) ?_ ?_
      · exact trivial
      refine at_B [0, 1, 5, 7, 8, 16] [.std, .std, .std, .eq (.tv (.ptr (celR (l.getD i Ru.z)))), .std, .ret (.tv (.bool (notValid (l.getD i Ru.z))))] [(0 ≤ ((i : Nat) : Int) ∧ ((i : Nat) : Int) < ((((l.map celR) : List (List TV)).length : Nat) : Int)), (.tv (.ptr (rowAt (l.map celR) ((i : Nat) : Int))) : AV) = .tv (.ptr (celR (l.getD i Ru.z))), PureCall Try.prog 30 [agR (l.getD i Ru.z)] (.tv (.bool (notValid (l.getD i Ru.z))))] [(1000000, .any), (0, .tv (.sli 13 (l.map celR))), (1, .tv (.fn 30)), (5, .tv (.int .i64 ((i : Nat) : Int))), (7, .tv (.int .i64 (((l.map celR).length : Nat) : Int))), (8, .tv (.int .i64 ((i : Nat) : Int))), (16, .tv (.bool (notValid (l.getD i Ru.z))))] [] 9 (by kernel_rfl) ?_ ?_
      · exact ⟨by (try simp only [List.length_map, List.length_append, List.length_cons, List.length_nil, List.length_set] at *); omega, congrArg (fun c => AV.tv (.ptr c)) (row_R l ((i : Nat) : Int) (by (try simp only [List.length_map, Bool.and_eq_true, Bool.or_eq_true, Bool.not_eq_true', decide_eq_true_eq, decide_eq_false_iff_not, Bool.and_eq_false_iff, Bool.or_eq_false_iff, Bool.not_eq_false', List.length_append, List.length_cons, List.length_nil, List.length_set] at *); omega)), (c30 (l.getD i Ru.z)), trivial⟩
      refine at_cond (b := (notValid (l.getD i Ru.z))) rfl rfl (fun hc16 => ?_) (fun hc16 => ?_)
      · have q16 := hc16
        (try simp only [List.length_map, Bool.and_eq_true, Bool.or_eq_true, Bool.not_eq_true', decide_eq_true_eq, decide_eq_false_iff_not, Bool.and_eq_false_iff, Bool.or_eq_false_iff, Bool.not_eq_false'] at q16)
        refine at_B [4] [] [] [(1000000, .any), (4, .tv (.int .i64 ((i : Nat) : Int)))] [] 11 (by kernel_rfl) ?_ ?_
        · exact trivial
        refine at_ret ?_
        refine fin0 (.inr rfl) (.tv (.int .i64 ((i : Nat) : Int))) [] (.tv (.int .i64 ((i : Nat) : Int))) (H2 := []) (by kernel_rfl) (by kernel_rfl) ?_
        refine Le.of_eq ?_
        rw [idx_stop (i := i) Ru.z (by omega) hx2 hc16]
      · have q16 := hc16
        (try simp only [List.length_map, Bool.and_eq_true, Bool.or_eq_true, Bool.not_eq_true', decide_eq_true_eq, decide_eq_false_iff_not, Bool.and_eq_false_iff, Bool.or_eq_false_iff, Bool.not_eq_false'] at q16)
        refine at_skip ?_
        change AT _ _ _ _
        refine at_Bl [0, 1, 7, 8] [.eq (.tv (.int .i64 ((i + 1 : Nat) : Int)))] [(.tv (.int .i64 (wr (((i : Nat) : Int) + 1))) : AV) = .tv (.int .i64 ((i + 1 : Nat) : Int))] [(1000000, .any), (0, .tv (.sli 13 (l.map celR))), (1, .tv (.fn 30)), (7, .tv (.int .i64 (((l.map celR).length : Nat) : Int))), (8, .tv (.int .i64 ((i + 1 : Nat) : Int)))] [] 11 (by kernel_rfl) ?_ ?_
        · exact ⟨succ_av i (by (try simp only [List.length_map, List.length_append, List.length_cons, List.length_nil, List.length_set] at *); omega), trivial⟩
        refine ⟨rfl, (i + 1), ?_, ?_, ?_⟩
        · (try dsimp only); omega
        · exact ⟨by omega, idx_step Ru.z (by omega) hx2 hc16⟩
        · exact rn_ok [] [] [0, 1, 7, 8] (trivial) (by kernel_rfl)
    · have q9 := hc9
      (try simp only [List.length_map, Bool.and_eq_true, Bool.or_eq_true, Bool.not_eq_true', decide_eq_true_eq, decide_eq_false_iff_not, Bool.and_eq_false_iff, Bool.or_eq_false_iff, Bool.not_eq_false'] at q9)
      refine at_exit ?_
      change AT _ _ _ _
      refine at_B [4] [] [] [(1000000, .any), (4, .tv (.int .i64 (-1)))] [] 6 (by kernel_rfl) ?_ ?_
      · exact trivial
      refine at_ret ?_
      refine fin0 (.inr rfl) (.tv (.int .i64 (-1))) [] (.tv (.int .i64 (-1))) (H2 := []) (by kernel_rfl) (by kernel_rfl) ?_
      refine Le.of_eq ?_
      rw [idx_end (i := i) (by omega) hx2]
theorem c29 (l : (List Ru))  : PureCall Try.prog 29 [.tv (.sli 13 (l.map celR)), .tv (.fn 30)] (.tv (.bool (List.any l notValid))) := by
  refine walk0 (fn := Try.f29) [.tmp 4] Try.func29 rfl (by kernel_rfl) rfl (by kernel_rfl) (by kernel_rfl) ?_
  change AT _ _ _ ⟨[(0, .tv (.sli 13 (l.map celR))), (1, .tv (.fn 30))], [], [], 0⟩
  refine at_B [0, 1] [] [] [(1000000, .any), (0, .tv (.sli 13 (l.map celR))), (1, .tv (.fn 30))] [] 1 (by kernel_rfl) ?_ ?_
  · exact trivial
  refine at_B [4] [.std, .std, .ret (.tv (.int .i64 (idxF notValid l 0)))] [PureCall Try.prog 47 [.tv (.sli 13 (l.map celR)), .tv (.fn 30)] (.tv (.int .i64 (idxF notValid l 0)))] [(1000000, .any), (4, .tv (.bool (decide ((0 : Int) ≤ (idxF notValid l 0)))))] [] 6 (by kernel_rfl) ?_ ?_
  · exact ⟨(c47 l), trivial⟩
  refine at_ret ?_
  refine fin0 (.inr rfl) (.tv (.bool (decide ((0 : Int) ≤ (idxF notValid l 0))))) [] (.tv (.bool (decide ((0 : Int) ≤ (idxF notValid l 0))))) (H2 := []) (by kernel_rfl) (by kernel_rfl) ?_
  refine Le.of_eq ?_
  rw [← idx_any _ _ 0]
end Go.Proofs.Ythmimpiegnnmdaa
