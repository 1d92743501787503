/- Walks of the small functions. -/
import Derived.Test.YthmimpiegnnmdaaFun8
namespace Go.Proofs.Ythmimpiegnnmdaa
open Go.RowKit
set_option maxRecDepth 10000
set_option linter.unusedSimpArgs false
set_option linter.unusedVariables false

theorem c23 (l : (List Sn)) (r : (List Ru)) (hp : l.length * 2 ^ r.length ≤ 100000000) : PureCall Try.prog 23 [.tv (.sli 7 (l.map celS)), .tv (.sli 13 (r.map celR))] (.tv (.sli 7 ((afterP l r).map celS))) := by
  refine walk0 (fn := Try.f23) [.tmp 4] Try.func23 rfl (by kernel_rfl) rfl (by kernel_rfl) (by kernel_rfl) ?_
  change AT _ _ _ ⟨[(0, .tv (.sli 7 (l.map celS))), (1, .tv (.sli 13 (r.map celR)))], [], [], 0⟩
  refine at_len 1 rfl (fun hlen => ?_)
  refine at_B [0, 1] [] [] [(1000000, .any), (0, .tv (.sli 7 (l.map celS))), (1, .tv (.sli 13 (r.map celR)))] [] 1 (by kernel_rfl) ?_ ?_
  · exact trivial
  refine at_seq ?_
  refine at_B [0, 1, 5] [] [] [(1000000, .any), (0, .tv (.sli 7 (l.map celS))), (1, .tv (.sli 13 (r.map celR))), (5, .tv (.int .i64 0))] [] 2 (by kernel_rfl) ?_ ?_
  · exact trivial
  refine at_block ?_
  refine at_loopR (X := Nat × List Sn) 0 (fun ((i, x) : Nat × List Sn) => [(1000000, .any), (0, .tv (.sli 7 (x.map celS))), (1, .tv (.sli 13 (r.map celR))), (5, .tv (.int .i64 ((i : Nat) : Int)))]) (fun ((i, x) : Nat × List Sn) => []) (fun ((i, x) : Nat × List Sn) => i ≤ r.length ∧ (r.drop i).foldl applyP x = afterP l r ∧ x.length * 2 ^ (r.length - i) ≤ 100000000) (fun ((i, x) : Nat × List Sn) => r.length - i) (0, l) ?_ ?_ ?_
  · exact ⟨Nat.zero_le _, rfl, hp⟩
  · exact rn_ok [] [] [0, 1, 5] (trivial) (by kernel_rfl)
  · rintro ⟨i, x⟩ hinv
    dsimp only at hinv ⊢
    obtain ⟨hx1, hx2, hx3⟩ := hinv
    have hx4 := pow_ge hx3
    refine at_seq ?_
    refine at_B [0, 1, 5, 9] [] [] [(1000000, .any), (0, .tv (.sli 7 (x.map celS))), (1, .tv (.sli 13 (r.map celR))), (5, .tv (.int .i64 ((i : Nat) : Int))), (9, .tv (.bool (decide (((i : Nat) : Int) < (((r.map celR).length : Nat) : Int)))))] [] 4 (by kernel_rfl) ?_ ?_
    · exact trivial
    refine at_cond (b := (decide (((i : Nat) : Int) < (((r.map celR).length : Nat) : Int)))) rfl rfl (fun hc9 => ?_) (fun hc9 => ?_)
    · have q9 := hc9
      (try simp only [List.length_map, Bool.and_eq_true, Bool.or_eq_true, Bool.not_eq_true', decide_eq_true_eq, decide_eq_false_iff_not, Bool.and_eq_false_iff, Bool.or_eq_false_iff, Bool.not_eq_false'] at q9)
      refine at_skip ?_
      change AT _ _ _ _
      refine at_seq ?_
      refine at_block ?_
      refine at_Bl [0, 1, 5] [.std, .std, .std, .eq (.tv (.ptr (celR (r.getD i Ru.z)))), .std, .ret (.tv (.sli 7 ((applyP x (r.getD i Ru.z)).map celS)))] [(0 ≤ ((i : Nat) : Int) ∧ ((i : Nat) : Int) < ((((r.map celR) : List (List TV)).length : Nat) : Int)), (.tv (.ptr (rowAt (r.map celR) ((i : Nat) : Int))) : AV) = .tv (.ptr (celR (r.getD i Ru.z))), PureCall Try.prog 18 [.tv (.sli 7 (x.map celS)), agR (r.getD i Ru.z)] (.tv (.sli 7 ((applyP x (r.getD i Ru.z)).map celS)))] [(1000000, .any), (0, .tv (.sli 7 ((applyP x (r.getD i Ru.z)).map celS))), (1, .tv (.sli 13 (r.map celR))), (5, .tv (.int .i64 ((i : Nat) : Int)))] [] 11 (by kernel_rfl) ?_ ?_
      · exact ⟨by (try simp only [List.length_map, List.length_append, List.length_cons, List.length_nil, List.length_set] at *); omega, congrArg (fun c => AV.tv (.ptr c)) (row_R r ((i : Nat) : Int) (by (try simp only [List.length_map, Bool.and_eq_true, Bool.or_eq_true, Bool.not_eq_true', decide_eq_true_eq, decide_eq_false_iff_not, Bool.and_eq_false_iff, Bool.or_eq_false_iff, Bool.not_eq_false', List.length_append, List.length_cons, List.length_nil, List.length_set] at *); omega)), (c18 x (r.getD i Ru.z) (by (try simp only [List.length_map, Bool.and_eq_true, Bool.or_eq_true, Bool.not_eq_true', decide_eq_true_eq, decide_eq_false_iff_not, Bool.and_eq_false_iff, Bool.or_eq_false_iff, Bool.not_eq_false', List.length_append, List.length_cons, List.length_nil, List.length_set] at *); omega)), trivial⟩
      change AT _ _ _ _
      refine at_Bl [0, 1, 5] [.std, .eq (.tv (.int .i64 ((i + 1 : Nat) : Int)))] [(.tv (.int .i64 (wr (((i : Nat) : Int) + 1))) : AV) = .tv (.int .i64 ((i + 1 : Nat) : Int))] [(1000000, .any), (0, .tv (.sli 7 ((applyP x (r.getD i Ru.z)).map celS))), (1, .tv (.sli 13 (r.map celR))), (5, .tv (.int .i64 ((i + 1 : Nat) : Int)))] [] 14 (by kernel_rfl) ?_ ?_
      · exact ⟨succ_av i (by (try simp only [List.length_map, List.length_append, List.length_cons, List.length_nil, List.length_set] at *); omega), trivial⟩
      refine ⟨rfl, (i + 1, (applyP x (r.getD i Ru.z))), ?_, ?_, ?_⟩
      · (try dsimp only); omega
      · (try dsimp only); exact ⟨by omega, (fold_step (f := applyP) Ru.z (by omega)).symm.trans hx2, by rw [← Nat.sub_sub]; exact pow_step (by omega) hx3 (applyP_len _ _)⟩
      · exact rn_ok [] [] [0, 1, 5] (trivial) (by kernel_rfl)
    · have q9 := hc9
      (try simp only [List.length_map, Bool.and_eq_true, Bool.or_eq_true, Bool.not_eq_true', decide_eq_true_eq, decide_eq_false_iff_not, Bool.and_eq_false_iff, Bool.or_eq_false_iff, Bool.not_eq_false'] at q9)
      refine at_exit ?_
      change AT _ _ _ _
      refine at_B [4] [] [] [(1000000, .any), (4, .tv (.sli 7 (x.map celS)))] [] 5 (by kernel_rfl) ?_ ?_
      · exact trivial
      refine at_ret ?_
      refine fin0 (.inr rfl) (.tv (.sli 7 (x.map celS))) [] (.tv (.sli 7 (x.map celS))) (H2 := []) (by kernel_rfl) (by kernel_rfl) ?_
      refine Le.of_eq ?_
      have he : r.length ≤ i := by omega
      rw [List.drop_of_length_le he] at hx2
      rw [← hx2]; rfl
theorem c5 (l : (List Sn)) (r : (List Ru)) (day : Int)  : PureCall Try.prog 5 [.tv (.sli 7 (l.map celS)), .tv (.sli 13 (r.map celR)), .tv (.int .i64 day)] (.tv (.bool true)) := by
  refine walk0 (fn := Try.f5) [.tmp 6] Try.func5 rfl (by kernel_rfl) rfl (by kernel_rfl) (by kernel_rfl) ?_
  change AT _ _ _ ⟨[(0, .tv (.sli 7 (l.map celS))), (1, .tv (.sli 13 (r.map celR))), (2, .tv (.int .i64 day))], [], [], 0⟩
  refine at_len 1 rfl (fun hlen => ?_)
  refine at_B [0, 1, 2] [] [] [(1000000, .any), (0, .tv (.sli 7 (l.map celS))), (1, .tv (.sli 13 (r.map celR))), (2, .tv (.int .i64 day))] [] 1 (by kernel_rfl) ?_ ?_
  · exact trivial
  refine at_B [0, 1, 2, 7] [.ret (.tv (.bool headB))] [PureCall Try.prog 9 [] (.tv (.bool headB))] [(1000000, .any), (0, .tv (.sli 7 (l.map celS))), (1, .tv (.sli 13 (r.map celR))), (2, .tv (.int .i64 day)), (7, .tv (.bool headB))] [] 3 (by kernel_rfl) ?_ ?_
  · exact ⟨(c9), trivial⟩
  refine at_seq ?_
  refine at_B [0, 1, 2, 7, 24] [.std, .ret (.tv (.bool (shortS l 10))), .std, .std, .std, .ret (.tv (.bool (fewR r 10)))] [PureCall Try.prog 11 [.tv (.sli 7 (l.map celS)), .tv (.int .i64 10)] (.tv (.bool (shortS l 10))), ((!(shortS l 10)) = false) → PureCall Try.prog 10 [.tv (.sli 13 (r.map celR)), .tv (.int .i64 10)] (.tv (.bool (fewR r 10)))] [(1000000, .any), (0, .tv (.sli 7 (l.map celS))), (1, .tv (.sli 13 (r.map celR))), (2, .tv (.int .i64 day)), (7, .tv (.bool headB)), (24, .tv (.bool ((!(shortS l 10)) || (!(fewR r 10)))))] [] 11 (by kernel_rfl) ?_ ?_
  · exact ⟨(c11 l 10), fun hg0 => (c10 r 10), trivial⟩
  refine at_cond (b := ((!(shortS l 10)) || (!(fewR r 10)))) rfl rfl (fun hc24 => ?_) (fun hc24 => ?_)
  · have q24 := hc24
    (try simp only [List.length_map, Bool.and_eq_true, Bool.or_eq_true, Bool.not_eq_true', decide_eq_true_eq, decide_eq_false_iff_not, Bool.and_eq_false_iff, Bool.or_eq_false_iff, Bool.not_eq_false'] at q24)
    refine at_B [6] [] [] [(1000000, .any), (6, .tv (.bool headB))] [] 13 (by kernel_rfl) ?_ ?_
    · exact trivial
    refine at_ret ?_
    refine fin0 (.inr rfl) (.tv (.bool headB)) [] (.tv (.bool headB)) (H2 := []) (by kernel_rfl) (by kernel_rfl) ?_
    refine Le.of_eq ?_
    rw [head_true]
  · have q24 := hc24
    (try simp only [List.length_map, Bool.and_eq_true, Bool.or_eq_true, Bool.not_eq_true', decide_eq_true_eq, decide_eq_false_iff_not, Bool.and_eq_false_iff, Bool.or_eq_false_iff, Bool.not_eq_false'] at q24)
    have hsl := short_len q24.1
    have hfl := few_len q24.2
    refine at_skip ?_
    change AT _ _ _ _
    refine at_B [0, 1, 2, 7, 8] [] [] [(1000000, .any), (0, .tv (.sli 7 (l.map celS))), (1, .tv (.sli 13 (r.map celR))), (2, .tv (.int .i64 day)), (7, .tv (.bool headB)), (8, .tv .nils)] [] 12 (by kernel_rfl) ?_ ?_
    · exact trivial
    refine at_seq ?_
    refine at_B [0, 1, 2, 7, 8, 9] [.std, .std, .eq (.tv (.int .i64 ((((r.map celR).length : Nat) : Int) - 1)))] [(.tv (.int .i64 (wr ((((r.map celR).length : Nat) : Int) - 1))) : AV) = .tv (.int .i64 ((((r.map celR).length : Nat) : Int) - 1))] [(1000000, .any), (0, .tv (.sli 7 (l.map celS))), (1, .tv (.sli 13 (r.map celR))), (2, .tv (.int .i64 day)), (7, .tv (.bool headB)), (8, .tv .nils), (9, .tv (.int .i64 ((((r.map celR).length : Nat) : Int) - 1)))] [] 16 (by kernel_rfl) ?_ ?_
    · exact ⟨fit_av _ (by omega), trivial⟩
    refine at_block ?_
    refine at_pre (Gh.own 8 13 rfl (by decide)) ?_
    refine at_loopR (X := Nat × List Ru) 1 (fun ((k, b) : Nat × List Ru) => [(1000000, .any), (0, .tv (.sli 7 (l.map celS))), (1, .tv (.sli 13 (r.map celR))), (2, .tv (.int .i64 day)), (7, .tv (.bool headB)), (8, .sl [0, 17] 13 0 b.length), (9, .tv (.int .i64 (((k : Nat) : Int) - 1)))]) (fun ((k, b) : Nat × List Ru) => [([0, 17], .row (flat celR b) false)]) (fun ((k, b) : Nat × List Ru) => k ≤ r.length ∧ b = (r.drop k).reverse ∧ (r.drop k).all validP = true) (fun ((k, b) : Nat × List Ru) => k) ((r.map celR).length, []) ?_ ?_ ?_
    · exact ⟨by simp, by simp, by simp⟩
    · exact rn_ok [([16], [0, 17])] [] [0, 1, 2, 7, 8, 9] (trivial) (by kernel_rfl)
    · rintro ⟨k, b⟩ hinv
      dsimp only at hinv ⊢
      obtain ⟨hw1, hw2, hw3⟩ := hinv
      have hbl : b.length = r.length - k := by rw [hw2]; simp
      refine at_seq ?_
      refine at_B [0, 1, 2, 7, 8, 9, 30] [] [] [(1000000, .any), (0, .tv (.sli 7 (l.map celS))), (1, .tv (.sli 13 (r.map celR))), (2, .tv (.int .i64 day)), (7, .tv (.bool headB)), (8, .sl [0, 17] 13 0 b.length), (9, .tv (.int .i64 (((k : Nat) : Int) - 1))), (30, .tv (.bool (decide ((0 : Int) ≤ ((k : Nat) : Int) - 1))))] [([0, 17], .row (flat celR b) false)] 3 (by kernel_rfl) ?_ ?_
      · exact trivial
      refine at_cond (b := (decide ((0 : Int) ≤ ((k : Nat) : Int) - 1))) rfl rfl (fun hc30 => ?_) (fun hc30 => ?_)
      · have q30 := hc30
        (try simp only [List.length_map, Bool.and_eq_true, Bool.or_eq_true, Bool.not_eq_true', decide_eq_true_eq, decide_eq_false_iff_not, Bool.and_eq_false_iff, Bool.or_eq_false_iff, Bool.not_eq_false'] at q30)
        obtain ⟨j, hj⟩ : ∃ j, k = j + 1 := ⟨k - 1, by omega⟩
        refine at_skip ?_
        change AT _ _ _ _
        refine at_seq ?_
        refine at_block ?_
        refine at_seq ?_
        refine at_B [0, 1, 2, 7, 8, 9, 38] [.std, .eq (.tv (.int .i64 ((j : Nat) : Int))), .eq (.tv (.ptr (celR (r.getD j Ru.z)))), .std, .ret (.tv (.bool (validP (r.getD j Ru.z))))] [(.tv (.int .i64 (((k : Nat) : Int) - 1)) : AV) = .tv (.int .i64 ((j : Nat) : Int)), (0 ≤ ((j : Nat) : Int) ∧ ((j : Nat) : Int) < ((((r.map celR) : List (List TV)).length : Nat) : Int)), (.tv (.ptr (rowAt (r.map celR) ((j : Nat) : Int))) : AV) = .tv (.ptr (celR (r.getD j Ru.z))), PureCall Try.prog 15 [agR (r.getD j Ru.z)] (.tv (.bool (validP (r.getD j Ru.z))))] [(1000000, .any), (0, .tv (.sli 7 (l.map celS))), (1, .tv (.sli 13 (r.map celR))), (2, .tv (.int .i64 day)), (7, .tv (.bool headB)), (8, .sl [0, 17] 13 0 b.length), (9, .tv (.int .i64 (((k : Nat) : Int) - 1))), (38, .tv (.bool (!(validP (r.getD j Ru.z)))))] [([0, 17], .row (flat celR b) false)] 9 (by kernel_rfl) ?_ ?_
        · exact ⟨congrArg (fun n => AV.tv (.int .i64 n)) (by omega), by (try simp only [List.length_map, List.length_append, List.length_cons, List.length_nil, List.length_set] at *); omega, congrArg (fun c => AV.tv (.ptr c)) (row_R r ((j : Nat) : Int) (by (try simp only [List.length_map, Bool.and_eq_true, Bool.or_eq_true, Bool.not_eq_true', decide_eq_true_eq, decide_eq_false_iff_not, Bool.and_eq_false_iff, Bool.or_eq_false_iff, Bool.not_eq_false', List.length_append, List.length_cons, List.length_nil, List.length_set] at *); omega)), (c15 (r.getD j Ru.z)), trivial⟩
        refine at_cond (b := (!(validP (r.getD j Ru.z)))) rfl rfl (fun hc38 => ?_) (fun hc38 => ?_)
        · have q38 := hc38
          (try simp only [List.length_map, Bool.and_eq_true, Bool.or_eq_true, Bool.not_eq_true', decide_eq_true_eq, decide_eq_false_iff_not, Bool.and_eq_false_iff, Bool.or_eq_false_iff, Bool.not_eq_false'] at q38)
          refine at_B [6] [] [] [(1000000, .any), (6, .tv (.bool headB))] [([0, 17], .row (flat celR b) false)] 11 (by kernel_rfl) ?_ ?_
          · exact trivial
          refine at_ret ?_
          refine fin0 (.inr rfl) (.tv (.bool headB)) [([0, 17], .row (flat celR b) false)] (.tv (.bool headB)) (H2 := [([0, 17], .row (flat celR b) false)]) (by kernel_rfl) (by kernel_rfl) ?_
          refine Le.of_eq ?_
          rw [head_true]
        · have q38 := hc38
          (try simp only [List.length_map, Bool.and_eq_true, Bool.or_eq_true, Bool.not_eq_true', decide_eq_true_eq, decide_eq_false_iff_not, Bool.and_eq_false_iff, Bool.or_eq_false_iff, Bool.not_eq_false'] at q38)
          refine at_skip ?_
          change AT _ _ _ _
          refine at_Bl [0, 1, 2, 7, 8, 9] [.std, .std, .eq (.tv (.int .i64 ((j : Nat) : Int))), .eq (.tv (.ptr (celR (r.getD j Ru.z)))), .std, .eq (.tv (.sli 13 (([(r.getD j Ru.z)] : List _).map celR))), .eff (.sl [15, 17] 13 0 (b ++ [(r.getD j Ru.z)]).length) (.row (flat celR (b ++ [(r.getD j Ru.z)])) false)] [(.tv (.int .i64 (((k : Nat) : Int) - 1)) : AV) = .tv (.int .i64 ((j : Nat) : Int)), (0 ≤ ((j : Nat) : Int) ∧ ((j : Nat) : Int) < ((((r.map celR) : List (List TV)).length : Nat) : Int)), (.tv (.ptr (rowAt (r.map celR) ((j : Nat) : Int))) : AV) = .tv (.ptr (celR (r.getD j Ru.z))), (.tv (.sli 13 [(celR (r.getD j Ru.z))]) : AV) = .tv (.sli 13 (([(r.getD j Ru.z)] : List _).map celR)), (13 = 13 ∧ 0 = 0 ∧ (flat celR b).length = b.length * 13 ∧ b.length + 1 ≤ 9223372036854775807 ∧ (b.length + 1) * 152 ≤ 140737488355328), (.sl [15, 17] 13 0 (b.length + 1) : AV) = .sl [15, 17] 13 0 (b ++ [(r.getD j Ru.z)]).length, (.row ((flat celR b) ++ (List.map AV.tv (List.flatten (([(r.getD j Ru.z)] : List _).map celR)))) false : AO) = .row (flat celR (b ++ [(r.getD j Ru.z)])) false] [(1000000, .any), (0, .tv (.sli 7 (l.map celS))), (1, .tv (.sli 13 (r.map celR))), (2, .tv (.int .i64 day)), (7, .tv (.bool headB)), (8, .sl [15, 17] 13 0 (b ++ [(r.getD j Ru.z)]).length), (9, .tv (.int .i64 (((k : Nat) : Int) - 1)))] [([15, 17], .row (flat celR (b ++ [(r.getD j Ru.z)])) false)] 17 (by kernel_rfl) ?_ ?_
          · exact ⟨congrArg (fun n => AV.tv (.int .i64 n)) (by omega), by (try simp only [List.length_map, List.length_append, List.length_cons, List.length_nil, List.length_set] at *); omega, congrArg (fun c => AV.tv (.ptr c)) (row_R r ((j : Nat) : Int) (by (try simp only [List.length_map, Bool.and_eq_true, Bool.or_eq_true, Bool.not_eq_true', decide_eq_true_eq, decide_eq_false_iff_not, Bool.and_eq_false_iff, Bool.or_eq_false_iff, Bool.not_eq_false', List.length_append, List.length_cons, List.length_nil, List.length_set] at *); omega)), rfl, ⟨rfl, rfl, flat_len (sz := 13) (fun _ => rfl) _, by (try simp only [List.length_map, Bool.and_eq_true, Bool.or_eq_true, Bool.not_eq_true', decide_eq_true_eq, decide_eq_false_iff_not, Bool.and_eq_false_iff, Bool.or_eq_false_iff, Bool.not_eq_false', List.length_append, List.length_cons, List.length_nil, List.length_set] at *); omega, by (try simp only [List.length_map, Bool.and_eq_true, Bool.or_eq_true, Bool.not_eq_true', decide_eq_true_eq, decide_eq_false_iff_not, Bool.and_eq_false_iff, Bool.or_eq_false_iff, Bool.not_eq_false', List.length_append, List.length_cons, List.length_nil, List.length_set] at *); omega⟩, by simp, congrArg (AO.row · false) (flat_app (rfl)), trivial⟩
          change AT _ _ _ _
          refine at_Bl [0, 1, 2, 7, 8, 9] [.std, .eq (.tv (.int .i64 (((j : Nat) : Int) - 1)))] [(.tv (.int .i64 (wr ((((k : Nat) : Int) - 1) - 1))) : AV) = .tv (.int .i64 (((j : Nat) : Int) - 1))] [(1000000, .any), (0, .tv (.sli 7 (l.map celS))), (1, .tv (.sli 13 (r.map celR))), (2, .tv (.int .i64 day)), (7, .tv (.bool headB)), (8, .sl [15, 17] 13 0 (b ++ [(r.getD j Ru.z)]).length), (9, .tv (.int .i64 (((j : Nat) : Int) - 1)))] [([15, 17], .row (flat celR (b ++ [(r.getD j Ru.z)])) false)] 20 (by kernel_rfl) ?_ ?_
          · exact ⟨(congrArg (fun n => AV.tv (.int .i64 (wr n))) (by omega)).trans (fit_av _ (by omega)), trivial⟩
          refine ⟨rfl, (j, (b ++ [(r.getD j Ru.z)])), ?_, ?_, ?_⟩
          · (try dsimp only); omega
          · (try dsimp only); exact ⟨by omega, by rw [drop_get r j Ru.z (by omega), List.reverse_cons, ← hj, ← hw2], by rw [drop_get r j Ru.z (by omega), List.all_cons, ← hj, hw3, Bool.and_true]; simpa using hc38⟩
          · exact rn_ok [([15, 17], [0, 17])] [[15, 17]] [0, 1, 2, 7, 8, 9] (⟨clO_flat _ _ _, trivial⟩) (by kernel_rfl)
      · have q30 := hc30
        (try simp only [List.length_map, Bool.and_eq_true, Bool.or_eq_true, Bool.not_eq_true', decide_eq_true_eq, decide_eq_false_iff_not, Bool.and_eq_false_iff, Bool.or_eq_false_iff, Bool.not_eq_false'] at q30)
        have hk0 : k = 0 := by omega
        rw [hk0, List.drop_zero] at hw2 hw3
        have hsub : b = r.reverse := hw2
        subst hsub
        refine at_pre (Gh.freeze 8 (by decide) (frz_flat2 (enc := celR) (l := r.reverse) (sz := 13) rfl (fun _ => rfl) (by decide) (by first | rfl | (simp only [List.length_append, List.length_cons, List.length_nil, List.length_set, List.length_map, List.length_reverse]; done) | (simp only [List.length_append, List.length_cons, List.length_nil, List.length_set, List.length_map, List.length_reverse]; omega)))) ?_
        change AT _ _ _ ⟨[(8, .tv (.sli 13 (r.reverse.map celR))), (1000000, .any), (0, .tv (.sli 7 (l.map celS))), (1, .tv (.sli 13 (r.map celR))), (2, .tv (.int .i64 day)), (7, .tv (.bool headB)), (8, .sl [0, 17] 13 0 r.reverse.length), (9, .tv (.int .i64 (((k : Nat) : Int) - 1))), (30, .tv (.bool (decide ((0 : Int) ≤ ((k : Nat) : Int) - 1))))], [([0, 17], .row (flat celR r.reverse) true)], [17], 3⟩
        refine at_exit ?_
        change AT _ _ _ _
        refine at_B [0, 1, 2, 7, 8, 11] [.std, .std, .ret (.tv (.sli 7 ((afterP l r).map celS))), .std, .ret (.tup [agF ((onS (afterP l r) day).1), .tv (.bool ((onS (afterP l r) day).2))])] [PureCall Try.prog 23 [.tv (.sli 7 (l.map celS)), .tv (.sli 13 (r.map celR))] (.tv (.sli 7 ((afterP l r).map celS))), PureCall Try.prog 20 [.tv (.sli 7 ((afterP l r).map celS)), .tv (.int .i64 day)] (.tup [agF ((onS (afterP l r) day).1), .tv (.bool ((onS (afterP l r) day).2))])] [(1000000, .any), (0, .tv (.sli 7 (l.map celS))), (1, .tv (.sli 13 (r.map celR))), (2, .tv (.int .i64 day)), (7, .tv (.bool headB)), (8, .tv (.sli 13 (r.reverse.map celR))), (11, .tv (.bool ((onS (afterP l r) day).2)))] [([26], .row ((celF ((onS (afterP l r) day).1)).map .tv) false), ([0, 17], .row (flat celR r.reverse) true)] 29 (by kernel_rfl) ?_ ?_
        · exact ⟨(c23 l r (after_room (by omega) (by (try simp only [List.length_append, List.length_reverse]); omega))), (c20 (afterP l r) day), trivial⟩
        refine at_B [0, 1, 2, 7, 8, 11, 13] [.std, .std, .ret (.tv (.sli 7 ((afterP l r.reverse).map celS))), .std, .ret (.tup [agF ((onS (afterP l r.reverse) day).1), .tv (.bool ((onS (afterP l r.reverse) day).2))])] [PureCall Try.prog 23 [.tv (.sli 7 (l.map celS)), .tv (.sli 13 (r.reverse.map celR))] (.tv (.sli 7 ((afterP l r.reverse).map celS))), PureCall Try.prog 20 [.tv (.sli 7 ((afterP l r.reverse).map celS)), .tv (.int .i64 day)] (.tup [agF ((onS (afterP l r.reverse) day).1), .tv (.bool ((onS (afterP l r.reverse) day).2))])] [(1000000, .any), (0, .tv (.sli 7 (l.map celS))), (1, .tv (.sli 13 (r.map celR))), (2, .tv (.int .i64 day)), (7, .tv (.bool headB)), (8, .tv (.sli 13 (r.reverse.map celR))), (11, .tv (.bool ((onS (afterP l r) day).2))), (13, .tv (.bool ((onS (afterP l r.reverse) day).2)))] [([37], .row ((celF ((onS (afterP l r.reverse) day).1)).map .tv) false), ([26], .row ((celF ((onS (afterP l r) day).1)).map .tv) false), ([0, 17], .row (flat celR r.reverse) true)] 40 (by kernel_rfl) ?_ ?_
        · exact ⟨(c23 l r.reverse (after_room (by omega) (by (try simp only [List.length_append, List.length_reverse]); omega))), (c20 (afterP l r.reverse) day), trivial⟩
        refine at_B [7, 11, 13, 15] [.std, .std, .std, .eff (.sl [43] 13 0 r.length) (.row (flat celR r) false), .std, .eff (.sl [45] 13 0 (r ++ r.reverse).length) (.row (flat celR (r ++ r.reverse)) false), .frz [.tv (.sli 7 (l.map celS)), .tv (.sli 13 ((r ++ r.reverse).map celR))] [([45], .row (flat celR (r ++ r.reverse)) true), ([37], .row ((celF ((onS (afterP l r.reverse) day).1)).map .tv) false), ([26], .row ((celF ((onS (afterP l r) day).1)).map .tv) false), ([0, 17], .row (flat celR r.reverse) true)] (.tv (.sli 7 ((afterP l (r ++ r.reverse)).map celS))), .std, .ret (.tup [agF ((onS (afterP l (r ++ r.reverse)) day).1), .tv (.bool ((onS (afterP l (r ++ r.reverse)) day).2))])] [(13 = 13 ∧ 0 = 0 ∧ ([] : List AV).length = 0 * 13 ∧ 0 + (r.map celR).length ≤ 9223372036854775807 ∧ (0 + (r.map celR).length) * 152 ≤ 140737488355328), (.sl [43] 13 0 (0 + (r.map celR).length) : AV) = .sl [43] 13 0 r.length, (.row (([] : List AV) ++ (List.map AV.tv (List.flatten (r.map celR)))) false : AO) = .row (flat celR r) false, (13 = 13 ∧ 0 = 0 ∧ (flat celR r).length = r.length * 13 ∧ r.length + (r.reverse.map celR).length ≤ 9223372036854775807 ∧ (r.length + (r.reverse.map celR).length) * 152 ≤ 140737488355328), (.sl [45] 13 0 (r.length + (r.reverse.map celR).length) : AV) = .sl [45] 13 0 (r ++ r.reverse).length, (.row ((flat celR r) ++ (List.map AV.tv (List.flatten (r.reverse.map celR)))) false : AO) = .row (flat celR (r ++ r.reverse)) false, frzs [.tv (.sli 7 (l.map celS)), .sl [45] 13 0 (r ++ r.reverse).length] [([45], .row (flat celR (r ++ r.reverse)) false), ([37], .row ((celF ((onS (afterP l r.reverse) day).1)).map .tv) false), ([26], .row ((celF ((onS (afterP l r) day).1)).map .tv) false), ([0, 17], .row (flat celR r.reverse) true)] = some ([.tv (.sli 7 (l.map celS)), .tv (.sli 13 ((r ++ r.reverse).map celR))], [([45], .row (flat celR (r ++ r.reverse)) true), ([37], .row ((celF ((onS (afterP l r.reverse) day).1)).map .tv) false), ([26], .row ((celF ((onS (afterP l r) day).1)).map .tv) false), ([0, 17], .row (flat celR r.reverse) true)]), PureCall Try.prog 23 [.tv (.sli 7 (l.map celS)), .tv (.sli 13 ((r ++ r.reverse).map celR))] (.tv (.sli 7 ((afterP l (r ++ r.reverse)).map celS))), PureCall Try.prog 20 [.tv (.sli 7 ((afterP l (r ++ r.reverse)).map celS)), .tv (.int .i64 day)] (.tup [agF ((onS (afterP l (r ++ r.reverse)) day).1), .tv (.bool ((onS (afterP l (r ++ r.reverse)) day).2))])] [(1000000, .any), (7, .tv (.bool headB)), (11, .tv (.bool ((onS (afterP l r) day).2))), (13, .tv (.bool ((onS (afterP l r.reverse) day).2))), (15, .tv (.bool ((onS (afterP l (r ++ r.reverse)) day).2)))] [([52], .row ((celF ((onS (afterP l (r ++ r.reverse)) day).1)).map .tv) false), ([45], .row (flat celR (r ++ r.reverse)) true), ([37], .row ((celF ((onS (afterP l r.reverse) day).1)).map .tv) false), ([26], .row ((celF ((onS (afterP l r) day).1)).map .tv) false), ([0, 17], .row (flat celR r.reverse) true)] 55 (by kernel_rfl) ?_ ?_
        · exact ⟨⟨rfl, rfl, rfl, by (try simp only [List.length_map, Bool.and_eq_true, Bool.or_eq_true, Bool.not_eq_true', decide_eq_true_eq, decide_eq_false_iff_not, Bool.and_eq_false_iff, Bool.or_eq_false_iff, Bool.not_eq_false', List.length_append, List.length_cons, List.length_nil, List.length_set] at *); omega, by (try simp only [List.length_map, Bool.and_eq_true, Bool.or_eq_true, Bool.not_eq_true', decide_eq_true_eq, decide_eq_false_iff_not, Bool.and_eq_false_iff, Bool.or_eq_false_iff, Bool.not_eq_false', List.length_append, List.length_cons, List.length_nil, List.length_set] at *); omega⟩, by simp, congrArg (AO.row · false) (flat_mk (rfl)), ⟨rfl, rfl, flat_len (sz := 13) (fun _ => rfl) _, by (try simp only [List.length_map, Bool.and_eq_true, Bool.or_eq_true, Bool.not_eq_true', decide_eq_true_eq, decide_eq_false_iff_not, Bool.and_eq_false_iff, Bool.or_eq_false_iff, Bool.not_eq_false', List.length_append, List.length_cons, List.length_nil, List.length_set] at *); omega, by (try simp only [List.length_map, Bool.and_eq_true, Bool.or_eq_true, Bool.not_eq_true', decide_eq_true_eq, decide_eq_false_iff_not, Bool.and_eq_false_iff, Bool.or_eq_false_iff, Bool.not_eq_false', List.length_append, List.length_cons, List.length_nil, List.length_set] at *); omega⟩, by simp, congrArg (AO.row · false) (flat_app (rfl)), frzs_to (by kernel_rfl) (frzs_cons (frzV_tv) (frzs_cons (frz_flat2 (enc := celR) (l := (r ++ r.reverse)) (sz := 13) rfl (fun _ => rfl) (by decide) (by first | rfl | (simp only [List.length_append, List.length_cons, List.length_nil, List.length_set, List.length_map, List.length_reverse]; done) | (simp only [List.length_append, List.length_cons, List.length_nil, List.length_set, List.length_map, List.length_reverse]; omega))) (frzs_nil))), (c23 l (r ++ r.reverse) (after_room (by omega) (by (try simp only [List.length_append, List.length_reverse]); omega))), (c20 (afterP l (r ++ r.reverse)) day), trivial⟩
        refine at_B [6] [] [] [(1000000, .any), (6, .tv (.bool ((headB && ((onS (afterP l r) day).2 == (onS (afterP l r.reverse) day).2)) && ((onS (afterP l r) day).2 == (onS (afterP l (r ++ r.reverse)) day).2))))] [([52], .row ((celF ((onS (afterP l (r ++ r.reverse)) day).1)).map .tv) false), ([45], .row (flat celR (r ++ r.reverse)) true), ([37], .row ((celF ((onS (afterP l r.reverse) day).1)).map .tv) false), ([26], .row ((celF ((onS (afterP l r) day).1)).map .tv) false), ([0, 17], .row (flat celR r.reverse) true)] 67 (by kernel_rfl) ?_ ?_
        · exact trivial
        refine at_ret ?_
        refine fin0 (.inr rfl) (.tv (.bool ((headB && ((onS (afterP l r) day).2 == (onS (afterP l r.reverse) day).2)) && ((onS (afterP l r) day).2 == (onS (afterP l (r ++ r.reverse)) day).2)))) [([52], .row ((celF ((onS (afterP l (r ++ r.reverse)) day).1)).map .tv) false), ([45], .row (flat celR (r ++ r.reverse)) true), ([37], .row ((celF ((onS (afterP l r.reverse) day).1)).map .tv) false), ([26], .row ((celF ((onS (afterP l r) day).1)).map .tv) false), ([0, 17], .row (flat celR r.reverse) true)] (.tv (.bool ((headB && ((onS (afterP l r) day).2 == (onS (afterP l r.reverse) day).2)) && ((onS (afterP l r) day).2 == (onS (afterP l (r ++ r.reverse)) day).2)))) (H2 := [([52], .row ((celF ((onS (afterP l (r ++ r.reverse)) day).1)).map .tv) false), ([45], .row (flat celR (r ++ r.reverse)) true), ([37], .row ((celF ((onS (afterP l r.reverse) day).1)).map .tv) false), ([26], .row ((celF ((onS (afterP l r) day).1)).map .tv) false), ([0, 17], .row (flat celR r.reverse) true)]) (by kernel_rfl) (by kernel_rfl) ?_
        refine Le.of_eq ?_
        rw [law5_fin l r day hw3]
end Go.Proofs.Ythmimpiegnnmdaa
