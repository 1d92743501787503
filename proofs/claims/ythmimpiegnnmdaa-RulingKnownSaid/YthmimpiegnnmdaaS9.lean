/- Walks of the small functions. -/
import Derived.Test.YthmimpiegnnmdaaLaw4
namespace Go.Proofs.Ythmimpiegnnmdaa
open Go.RowKit
set_option maxRecDepth 10000
set_option linter.unusedSimpArgs false
set_option linter.unusedVariables false

theorem c6 (l : (List Ru)) (n1 : Int) (n2 : Int) (r : Ru)  : PureCall Try.prog 6 [.tv (.sli 13 (l.map celR)), .tv (.int .i64 n1), .tv (.int .i64 n2), agR r] (.tv (.bool true)) := by
  refine walk0 (fn := Try.f6) [.tmp 8] Try.func6 rfl (by kernel_rfl) rfl (by kernel_rfl) (by kernel_rfl) ?_
  change AT _ _ _ ⟨[(0, .tv (.sli 13 (l.map celR))), (1, .tv (.int .i64 n1)), (2, .tv (.int .i64 n2)), (3, agR r)], [], [], 0⟩
  refine at_len 0 rfl (fun hlen => ?_)
  refine at_B [0, 1, 2, 7] [] [] [(1000000, .any), (0, .tv (.sli 13 (l.map celR))), (1, .tv (.int .i64 n1)), (2, .tv (.int .i64 n2)), (7, .ptr [0] 0)] [([0], .row ((celR r).map .tv) false)] 2 (by kernel_rfl) ?_ ?_
  · exact trivial
  refine at_B [0, 1, 2, 7, 9] [.ret (.tv (.bool headB))] [PureCall Try.prog 9 [] (.tv (.bool headB))] [(1000000, .any), (0, .tv (.sli 13 (l.map celR))), (1, .tv (.int .i64 n1)), (2, .tv (.int .i64 n2)), (7, .ptr [0] 0), (9, .tv (.bool headB))] [([0], .row ((celR r).map .tv) false)] 4 (by kernel_rfl) ?_ ?_
  · exact ⟨(c9), trivial⟩
  refine at_seq ?_
  refine at_B [0, 1, 2, 7, 9, 29] [.std, .ret (.tv (.bool (fewR l 14))), .std, .std, .std, .eq (.tv (.sli 13 (([r] : List _).map celR))), .ret (.tv (.bool (fewR ([r]) 1)))] [PureCall Try.prog 10 [.tv (.sli 13 (l.map celR)), .tv (.int .i64 14)] (.tv (.bool (fewR l 14))), ((!(fewR l 14)) = false) → (.tv (.sli 13 [(celR r)]) : AV) = .tv (.sli 13 (([r] : List _).map celR)), ((!(fewR l 14)) = false) → PureCall Try.prog 10 [.tv (.sli 13 (([r] : List _).map celR)), .tv (.int .i64 1)] (.tv (.bool (fewR ([r]) 1)))] [(1000000, .any), (0, .tv (.sli 13 (l.map celR))), (1, .tv (.int .i64 n1)), (2, .tv (.int .i64 n2)), (7, .ptr [0] 0), (9, .tv (.bool headB)), (29, .tv (.bool ((!(fewR l 14)) || (!(fewR ([r]) 1)))))] [([0], .row ((celR r).map .tv) false)] 13 (by kernel_rfl) ?_ ?_
  · exact ⟨(c10 l 14), fun hg0 => rfl, fun hg0 => (c10 [r] 1), trivial⟩
  refine at_cond (b := ((!(fewR l 14)) || (!(fewR ([r]) 1)))) rfl rfl (fun hc29 => ?_) (fun hc29 => ?_)
  · have q29 := hc29
    (try simp only [List.length_map, Bool.and_eq_true, Bool.or_eq_true, Bool.not_eq_true', decide_eq_true_eq, decide_eq_false_iff_not, Bool.and_eq_false_iff, Bool.or_eq_false_iff, Bool.not_eq_false'] at q29)
    refine at_B [8] [] [] [(1000000, .any), (8, .tv (.bool headB))] [([0], .row ((celR r).map .tv) false)] 15 (by kernel_rfl) ?_ ?_
    · exact trivial
    refine at_ret ?_
    refine fin0 (.inr rfl) (.tv (.bool headB)) [([0], .row ((celR r).map .tv) false)] (.tv (.bool headB)) (H2 := [([0], .row ((celR r).map .tv) false)]) (by kernel_rfl) (by kernel_rfl) ?_
    refine Le.of_eq ?_
    rw [head_true]
  · have q29 := hc29
    (try simp only [List.length_map, Bool.and_eq_true, Bool.or_eq_true, Bool.not_eq_true', decide_eq_true_eq, decide_eq_false_iff_not, Bool.and_eq_false_iff, Bool.or_eq_false_iff, Bool.not_eq_false'] at q29)
    have hfl := few_len q29.1
    refine at_skip ?_
    change AT _ _ _ _
    refine at_B [0, 1, 2, 7, 9, 10, 11] [.std, .std, .std, .std, .ret (.tup [.tv (.sli 13 (((countP l (mn n1 n2)).1).map celR)), .tv (.int .i64 ((countP l (mn n1 n2)).2))])] [PureCall Try.prog 12 [.tv (.sli 13 (l.map celR)), .tv (.int .i64 (mn n1 n2))] (.tup [.tv (.sli 13 (((countP l (mn n1 n2)).1).map celR)), .tv (.int .i64 ((countP l (mn n1 n2)).2))])] [(1000000, .any), (0, .tv (.sli 13 (l.map celR))), (1, .tv (.int .i64 n1)), (2, .tv (.int .i64 n2)), (7, .ptr [0] 0), (9, .tv (.bool headB)), (10, .tv (.sli 13 (((countP l (mn n1 n2)).1).map celR))), (11, .tv (.int .i64 ((countP l (mn n1 n2)).2)))] [([0], .row ((celR r).map .tv) false)] 23 (by kernel_rfl) ?_ ?_
    · exact ⟨(c12 l (mn n1 n2)), trivial⟩
    refine at_seq ?_
    refine at_B [0, 1, 2, 7, 9, 10, 40] [] [] [(1000000, .any), (0, .tv (.sli 13 (l.map celR))), (1, .tv (.int .i64 n1)), (2, .tv (.int .i64 n2)), (7, .ptr [0] 0), (9, .tv (.bool headB)), (10, .tv (.sli 13 (((countP l (mn n1 n2)).1).map celR))), (40, .tv (.bool (!decide ((countP l (mn n1 n2)).2 = (0 : Int)))))] [([0], .row ((celR r).map .tv) false)] 25 (by kernel_rfl) ?_ ?_
    · exact trivial
    refine at_cond (b := (!decide ((countP l (mn n1 n2)).2 = (0 : Int)))) rfl rfl (fun hc40 => ?_) (fun hc40 => ?_)
    · have q40 := hc40
      (try simp only [List.length_map, Bool.and_eq_true, Bool.or_eq_true, Bool.not_eq_true', decide_eq_true_eq, decide_eq_false_iff_not, Bool.and_eq_false_iff, Bool.or_eq_false_iff, Bool.not_eq_false'] at q40)
      have he := count_no (l := l) (kn := mn n1 n2) (by simpa using hc40)
      refine at_B [8] [] [] [(1000000, .any), (8, .tv (.bool (headB && (decide ((((((countP l (mn n1 n2)).1).map celR).length : Nat) : Int) = (0 : Int))))))] [([0], .row ((celR r).map .tv) false)] 32 (by kernel_rfl) ?_ ?_
      · exact trivial
      refine at_ret ?_
      refine fin0 (.inr rfl) (.tv (.bool (headB && (decide ((((((countP l (mn n1 n2)).1).map celR).length : Nat) : Int) = (0 : Int)))))) [([0], .row ((celR r).map .tv) false)] (.tv (.bool (headB && (decide ((((((countP l (mn n1 n2)).1).map celR).length : Nat) : Int) = (0 : Int)))))) (H2 := [([0], .row ((celR r).map .tv) false)]) (by kernel_rfl) (by kernel_rfl) ?_
      refine Le.of_eq ?_
      rw [head_true, he]; rfl
    · have q40 := hc40
      (try simp only [List.length_map, Bool.and_eq_true, Bool.or_eq_true, Bool.not_eq_true', decide_eq_true_eq, decide_eq_false_iff_not, Bool.and_eq_false_iff, Bool.or_eq_false_iff, Bool.not_eq_false'] at q40)
      have he : (countP l (mn n1 n2)).2 = 0 := by simpa using hc40
      have hal := (law6_s he).length_le
      refine at_skip ?_
      change AT _ _ _ _
      refine at_B [0, 1, 2, 7, 9, 10, 12] [] [] [(1000000, .any), (0, .tv (.sli 13 (l.map celR))), (1, .tv (.int .i64 n1)), (2, .tv (.int .i64 n2)), (7, .ptr [0] 0), (9, .tv (.bool headB)), (10, .tv (.sli 13 (((countP l (mn n1 n2)).1).map celR))), (12, .tv .nils)] [([0], .row ((celR r).map .tv) false)] 26 (by kernel_rfl) ?_ ?_
      · exact trivial
      refine at_seq ?_
      refine at_B [0, 1, 2, 7, 9, 10, 12, 13] [] [] [(1000000, .any), (0, .tv (.sli 13 (l.map celR))), (1, .tv (.int .i64 n1)), (2, .tv (.int .i64 n2)), (7, .ptr [0] 0), (9, .tv (.bool headB)), (10, .tv (.sli 13 (((countP l (mn n1 n2)).1).map celR))), (12, .tv .nils), (13, .tv (.int .i64 0))] [([0], .row ((celR r).map .tv) false)] 27 (by kernel_rfl) ?_ ?_
      · exact trivial
      refine at_block ?_
      refine at_pre (Gh.own 12 13 rfl (by decide)) ?_
      refine at_loopR (X := Nat × List Ru) 1 (fun ((i0, b) : Nat × List Ru) => [(1000000, .any), (0, .tv (.sli 13 (l.map celR))), (1, .tv (.int .i64 n1)), (2, .tv (.int .i64 n2)), (7, .ptr [0] 0), (9, .tv (.bool headB)), (10, .tv (.sli 13 (((countP l (mn n1 n2)).1).map celR))), (12, .sl [0, 28] 13 0 b.length), (13, .tv (.int .i64 ((i0 : Nat) : Int)))]) (fun ((i0, b) : Nat × List Ru) => [([0, 28], .row (flat celR b) false), ([0], .row ((celR r).map .tv) false)]) (fun ((i0, b) : Nat × List Ru) => i0 ≤ l.length ∧ b = knownL (l.take i0) (mx n1 n2)) (fun ((i0, b) : Nat × List Ru) => l.length - i0) (0, []) ?_ ?_ ?_
      · exact ⟨Nat.zero_le _, rfl⟩
      · exact rn_ok [([27], [0, 28]), ([0], [0])] [] [0, 1, 2, 7, 9, 10, 12, 13] (trivial) (by kernel_rfl)
      · rintro ⟨i0, b⟩ hinv
        dsimp only at hinv ⊢
        obtain ⟨hx1, hx2⟩ := hinv
        have hbl := known_len l i0 (mx n1 n2)
        rw [← hx2] at hbl
        refine at_seq ?_
        refine at_B [0, 1, 2, 7, 9, 10, 12, 13, 50] [] [] [(1000000, .any), (0, .tv (.sli 13 (l.map celR))), (1, .tv (.int .i64 n1)), (2, .tv (.int .i64 n2)), (7, .ptr [0] 0), (9, .tv (.bool headB)), (10, .tv (.sli 13 (((countP l (mn n1 n2)).1).map celR))), (12, .sl [0, 28] 13 0 b.length), (13, .tv (.int .i64 ((i0 : Nat) : Int))), (50, .tv (.bool (decide (((i0 : Nat) : Int) < (((l.map celR).length : Nat) : Int)))))] [([0, 28], .row (flat celR b) false), ([0], .row ((celR r).map .tv) false)] 5 (by kernel_rfl) ?_ ?_
        · exact trivial
        refine at_cond (b := (decide (((i0 : Nat) : Int) < (((l.map celR).length : Nat) : Int)))) rfl rfl (fun hc50 => ?_) (fun hc50 => ?_)
        · have q50 := hc50
          (try simp only [List.length_map, Bool.and_eq_true, Bool.or_eq_true, Bool.not_eq_true', decide_eq_true_eq, decide_eq_false_iff_not, Bool.and_eq_false_iff, Bool.or_eq_false_iff, Bool.not_eq_false'] at q50)
          refine at_skip ?_
          change AT _ _ _ _
          refine at_seq ?_
          refine at_block ?_
          refine at_B [0, 1, 2, 7, 9, 10, 12, 13, 61] [.std, .std, .eq (.tv (.ptr (celR (l.getD i0 Ru.z))))] [(0 ≤ ((i0 : Nat) : Int) ∧ ((i0 : Nat) : Int) < ((((l.map celR) : List (List TV)).length : Nat) : Int)), (.tv (.ptr (rowAt (l.map celR) ((i0 : Nat) : Int))) : AV) = .tv (.ptr (celR (l.getD i0 Ru.z)))] [(1000000, .any), (0, .tv (.sli 13 (l.map celR))), (1, .tv (.int .i64 n1)), (2, .tv (.int .i64 n2)), (7, .ptr [0] 0), (9, .tv (.bool headB)), (10, .tv (.sli 13 (((countP l (mn n1 n2)).1).map celR))), (12, .sl [0, 28] 13 0 b.length), (13, .tv (.int .i64 ((i0 : Nat) : Int))), (61, .tv (.bool (decide ((l.getD i0 Ru.z).kn ≤ mx n1 n2))))] [([0, 28], .row (flat celR b) false), ([0], .row ((celR r).map .tv) false)] 14 (by kernel_rfl) ?_ ?_
          · exact ⟨by (try simp only [List.length_map, List.length_append, List.length_cons, List.length_nil, List.length_set] at *); omega, congrArg (fun c => AV.tv (.ptr c)) (row_R l ((i0 : Nat) : Int) (by (try simp only [List.length_map, Bool.and_eq_true, Bool.or_eq_true, Bool.not_eq_true', decide_eq_true_eq, decide_eq_false_iff_not, Bool.and_eq_false_iff, Bool.or_eq_false_iff, Bool.not_eq_false', List.length_append, List.length_cons, List.length_nil, List.length_set] at *); omega)), trivial⟩
          refine at_cond (b := (decide ((l.getD i0 Ru.z).kn ≤ mx n1 n2))) rfl rfl (fun hc61 => ?_) (fun hc61 => ?_)
          · have q61 := hc61
            (try simp only [List.length_map, Bool.and_eq_true, Bool.or_eq_true, Bool.not_eq_true', decide_eq_true_eq, decide_eq_false_iff_not, Bool.and_eq_false_iff, Bool.or_eq_false_iff, Bool.not_eq_false'] at q61)
            refine at_Bl [0, 1, 2, 7, 9, 10, 12, 13] [.std, .std, .std, .eq (.tv (.ptr (celR (l.getD i0 Ru.z)))), .std, .eq (.tv (.sli 13 (([(l.getD i0 Ru.z)] : List _).map celR))), .eff (.sl [20, 28] 13 0 (b ++ [(l.getD i0 Ru.z)]).length) (.row (flat celR (b ++ [(l.getD i0 Ru.z)])) false)] [(0 ≤ ((i0 : Nat) : Int) ∧ ((i0 : Nat) : Int) < ((((l.map celR) : List (List TV)).length : Nat) : Int)), (.tv (.ptr (rowAt (l.map celR) ((i0 : Nat) : Int))) : AV) = .tv (.ptr (celR (l.getD i0 Ru.z))), (.tv (.sli 13 [(celR (l.getD i0 Ru.z))]) : AV) = .tv (.sli 13 (([(l.getD i0 Ru.z)] : List _).map celR)), (13 = 13 ∧ 0 = 0 ∧ (flat celR b).length = b.length * 13 ∧ b.length + 1 ≤ 9223372036854775807 ∧ (b.length + 1) * 152 ≤ 140737488355328), (.sl [20, 28] 13 0 (b.length + 1) : AV) = .sl [20, 28] 13 0 (b ++ [(l.getD i0 Ru.z)]).length, (.row ((flat celR b) ++ (List.map AV.tv (List.flatten (([(l.getD i0 Ru.z)] : List _).map celR)))) false : AO) = .row (flat celR (b ++ [(l.getD i0 Ru.z)])) false] [(1000000, .any), (0, .tv (.sli 13 (l.map celR))), (1, .tv (.int .i64 n1)), (2, .tv (.int .i64 n2)), (7, .ptr [0] 0), (9, .tv (.bool headB)), (10, .tv (.sli 13 (((countP l (mn n1 n2)).1).map celR))), (12, .sl [20, 28] 13 0 (b ++ [(l.getD i0 Ru.z)]).length), (13, .tv (.int .i64 ((i0 : Nat) : Int)))] [([20, 28], .row (flat celR (b ++ [(l.getD i0 Ru.z)])) false), ([0], .row ((celR r).map .tv) false)] 22 (by kernel_rfl) ?_ ?_
            · exact ⟨by (try simp only [List.length_map, List.length_append, List.length_cons, List.length_nil, List.length_set] at *); omega, congrArg (fun c => AV.tv (.ptr c)) (row_R l ((i0 : Nat) : Int) (by (try simp only [List.length_map, Bool.and_eq_true, Bool.or_eq_true, Bool.not_eq_true', decide_eq_true_eq, decide_eq_false_iff_not, Bool.and_eq_false_iff, Bool.or_eq_false_iff, Bool.not_eq_false', List.length_append, List.length_cons, List.length_nil, List.length_set] at *); omega)), rfl, ⟨rfl, rfl, flat_len (sz := 13) (fun _ => rfl) _, by (try simp only [List.length_map, Bool.and_eq_true, Bool.or_eq_true, Bool.not_eq_true', decide_eq_true_eq, decide_eq_false_iff_not, Bool.and_eq_false_iff, Bool.or_eq_false_iff, Bool.not_eq_false', List.length_append, List.length_cons, List.length_nil, List.length_set] at *); omega, by (try simp only [List.length_map, Bool.and_eq_true, Bool.or_eq_true, Bool.not_eq_true', decide_eq_true_eq, decide_eq_false_iff_not, Bool.and_eq_false_iff, Bool.or_eq_false_iff, Bool.not_eq_false', List.length_append, List.length_cons, List.length_nil, List.length_set] at *); omega⟩, by simp, congrArg (AO.row · false) (flat_app (rfl)), trivial⟩
            change AT _ _ _ _
            refine at_Bl [0, 1, 2, 7, 9, 10, 12, 13] [.std, .eq (.tv (.int .i64 ((i0 + 1 : Nat) : Int)))] [(.tv (.int .i64 (wr (((i0 : Nat) : Int) + 1))) : AV) = .tv (.int .i64 ((i0 + 1 : Nat) : Int))] [(1000000, .any), (0, .tv (.sli 13 (l.map celR))), (1, .tv (.int .i64 n1)), (2, .tv (.int .i64 n2)), (7, .ptr [0] 0), (9, .tv (.bool headB)), (10, .tv (.sli 13 (((countP l (mn n1 n2)).1).map celR))), (12, .sl [20, 28] 13 0 (b ++ [(l.getD i0 Ru.z)]).length), (13, .tv (.int .i64 ((i0 + 1 : Nat) : Int)))] [([20, 28], .row (flat celR (b ++ [(l.getD i0 Ru.z)])) false), ([0], .row ((celR r).map .tv) false)] 25 (by kernel_rfl) ?_ ?_
            · exact ⟨succ_av i0 (by (try simp only [List.length_map, List.length_append, List.length_cons, List.length_nil, List.length_set] at *); omega), trivial⟩
            refine ⟨rfl, (i0 + 1, (b ++ [(l.getD i0 Ru.z)])), ?_, ?_, ?_⟩
            · (try dsimp only); omega
            · (try dsimp only); exact ⟨by omega, by first | rw [known_yes (by omega) hc61, ← hx2] | rw [known_no (by omega) hc61, ← hx2]⟩
            · exact rn_ok [([20, 28], [0, 28]), ([0], [0])] [[20, 28]] [0, 1, 2, 7, 9, 10, 12, 13] (⟨clO_flat _ _ _, trivial⟩) (by kernel_rfl)
          · have q61 := hc61
            (try simp only [List.length_map, Bool.and_eq_true, Bool.or_eq_true, Bool.not_eq_true', decide_eq_true_eq, decide_eq_false_iff_not, Bool.and_eq_false_iff, Bool.or_eq_false_iff, Bool.not_eq_false'] at q61)
            refine at_skip ?_
            change AT _ _ _ _
            refine at_Bl [0, 1, 2, 7, 9, 10, 12, 13] [.std, .eq (.tv (.int .i64 ((i0 + 1 : Nat) : Int)))] [(.tv (.int .i64 (wr (((i0 : Nat) : Int) + 1))) : AV) = .tv (.int .i64 ((i0 + 1 : Nat) : Int))] [(1000000, .any), (0, .tv (.sli 13 (l.map celR))), (1, .tv (.int .i64 n1)), (2, .tv (.int .i64 n2)), (7, .ptr [0] 0), (9, .tv (.bool headB)), (10, .tv (.sli 13 (((countP l (mn n1 n2)).1).map celR))), (12, .sl [0, 28] 13 0 b.length), (13, .tv (.int .i64 ((i0 + 1 : Nat) : Int)))] [([0, 28], .row (flat celR b) false), ([0], .row ((celR r).map .tv) false)] 17 (by kernel_rfl) ?_ ?_
            · exact ⟨succ_av i0 (by (try simp only [List.length_map, List.length_append, List.length_cons, List.length_nil, List.length_set] at *); omega), trivial⟩
            refine ⟨rfl, (i0 + 1, b), ?_, ?_, ?_⟩
            · (try dsimp only); omega
            · (try dsimp only); exact ⟨by omega, by first | rw [known_yes (by omega) hc61, ← hx2] | rw [known_no (by omega) hc61, ← hx2]⟩
            · exact rn_ok [([0, 28], [0, 28]), ([0], [0])] [[0, 28]] [0, 1, 2, 7, 9, 10, 12, 13] (⟨clO_flat _ _ _, trivial⟩) (by kernel_rfl)
        · have q50 := hc50
          (try simp only [List.length_map, Bool.and_eq_true, Bool.or_eq_true, Bool.not_eq_true', decide_eq_true_eq, decide_eq_false_iff_not, Bool.and_eq_false_iff, Bool.or_eq_false_iff, Bool.not_eq_false'] at q50)
          have hsub : b = (knownL l (mx n1 n2)) := by rw [hx2, List.take_of_length_le (by omega)]
          subst hsub
          refine at_exit ?_
          change AT _ _ _ _
          refine at_B [0, 1, 2, 7, 9, 10, 14, 15] [.std, .std, .std, .std, .frz [.tv (.sli 13 ((knownL l (mx n1 n2)).map celR)), .tv (.int .i64 (mn n1 n2))] [([0, 28], .row (flat celR (knownL l (mx n1 n2))) true), ([0], .row ((celR r).map .tv) false)] (.tup [.tv (.sli 13 (((countP (knownL l (mx n1 n2)) (mn n1 n2)).1).map celR)), .tv (.int .i64 ((countP (knownL l (mx n1 n2)) (mn n1 n2)).2))])] [frzs [.sl [0, 28] 13 0 (knownL l (mx n1 n2)).length, .tv (.int .i64 (mn n1 n2))] [([0, 28], .row (flat celR (knownL l (mx n1 n2))) false), ([0], .row ((celR r).map .tv) false)] = some ([.tv (.sli 13 ((knownL l (mx n1 n2)).map celR)), .tv (.int .i64 (mn n1 n2))], [([0, 28], .row (flat celR (knownL l (mx n1 n2))) true), ([0], .row ((celR r).map .tv) false)]), PureCall Try.prog 12 [.tv (.sli 13 ((knownL l (mx n1 n2)).map celR)), .tv (.int .i64 (mn n1 n2))] (.tup [.tv (.sli 13 (((countP (knownL l (mx n1 n2)) (mn n1 n2)).1).map celR)), .tv (.int .i64 ((countP (knownL l (mx n1 n2)) (mn n1 n2)).2))])] [(1000000, .any), (0, .tv (.sli 13 (l.map celR))), (1, .tv (.int .i64 n1)), (2, .tv (.int .i64 n2)), (7, .ptr [0] 0), (9, .tv (.bool headB)), (10, .tv (.sli 13 (((countP l (mn n1 n2)).1).map celR))), (14, .tv (.sli 13 (((countP (knownL l (mx n1 n2)) (mn n1 n2)).1).map celR))), (15, .tv (.int .i64 ((countP (knownL l (mx n1 n2)) (mn n1 n2)).2)))] [([0, 28], .row (flat celR (knownL l (mx n1 n2))) true), ([0], .row ((celR r).map .tv) false)] 39 (by kernel_rfl) ?_ ?_
          · exact ⟨frzs_to (by kernel_rfl) (frzs_cons (frz_flat2 (enc := celR) (l := (knownL l (mx n1 n2))) (sz := 13) rfl (fun _ => rfl) (by decide) (by first | rfl | (simp only [List.length_append, List.length_cons, List.length_nil, List.length_set, List.length_map, List.length_reverse]; done) | (simp only [List.length_append, List.length_cons, List.length_nil, List.length_set, List.length_map, List.length_reverse]; omega))) (frzs_cons (frzV_tv) (frzs_nil))), (c12 (knownL l (mx n1 n2)) (mn n1 n2)), trivial⟩
          refine at_seq ?_
          refine at_B [0, 1, 2, 7, 9, 10, 84] [.std, .std, .std, .std, .std, .ret (.tv (.bool (all2 sameR Ru.z ((countP l (mn n1 n2)).1) ((countP (knownL l (mx n1 n2)) (mn n1 n2)).1))))] [((!decide ((countP (knownL l (mx n1 n2)) (mn n1 n2)).2 = (0 : Int))) = false) → PureCall Try.prog 14 [.tv (.sli 13 (((countP l (mn n1 n2)).1).map celR)), .tv (.sli 13 (((countP (knownL l (mx n1 n2)) (mn n1 n2)).1).map celR))] (.tv (.bool (all2 sameR Ru.z ((countP l (mn n1 n2)).1) ((countP (knownL l (mx n1 n2)) (mn n1 n2)).1))))] [(1000000, .any), (0, .tv (.sli 13 (l.map celR))), (1, .tv (.int .i64 n1)), (2, .tv (.int .i64 n2)), (7, .ptr [0] 0), (9, .tv (.bool headB)), (10, .tv (.sli 13 (((countP l (mn n1 n2)).1).map celR))), (84, .tv (.bool ((!decide ((countP (knownL l (mx n1 n2)) (mn n1 n2)).2 = (0 : Int))) || (!(all2 sameR Ru.z ((countP l (mn n1 n2)).1) ((countP (knownL l (mx n1 n2)) (mn n1 n2)).1))))))] [([0, 28], .row (flat celR (knownL l (mx n1 n2))) true), ([0], .row ((celR r).map .tv) false)] 47 (by kernel_rfl) ?_ ?_
          · exact ⟨fun hg0 => (c14 ((countP l (mn n1 n2)).1) ((countP (knownL l (mx n1 n2)) (mn n1 n2)).1)), trivial⟩
          refine at_cond (b := ((!decide ((countP (knownL l (mx n1 n2)) (mn n1 n2)).2 = (0 : Int))) || (!(all2 sameR Ru.z ((countP l (mn n1 n2)).1) ((countP (knownL l (mx n1 n2)) (mn n1 n2)).1))))) rfl rfl (fun hc84 => ?_) (fun hc84 => ?_)
          · have q84 := hc84
            (try simp only [List.length_map, Bool.and_eq_true, Bool.or_eq_true, Bool.not_eq_true', decide_eq_true_eq, decide_eq_false_iff_not, Bool.and_eq_false_iff, Bool.or_eq_false_iff, Bool.not_eq_false'] at q84)
            exfalso
            rw [law6_b he (mn_mx n1 n2), all2_refl sameR_refl, he] at hc84
            simp at hc84
          · have q84 := hc84
            (try simp only [List.length_map, Bool.and_eq_true, Bool.or_eq_true, Bool.not_eq_true', decide_eq_true_eq, decide_eq_false_iff_not, Bool.and_eq_false_iff, Bool.or_eq_false_iff, Bool.not_eq_false'] at q84)
            refine at_skip ?_
            change AT _ _ _ _
            refine at_B [0, 1, 2, 7, 9, 10, 16] [] [] [(1000000, .any), (0, .tv (.sli 13 (l.map celR))), (1, .tv (.int .i64 n1)), (2, .tv (.int .i64 n2)), (7, .ptr [0] 0), (9, .tv (.bool headB)), (10, .tv (.sli 13 (((countP l (mn n1 n2)).1).map celR))), (16, .tv (.int .i64 0))] [([0, 28], .row (flat celR (knownL l (mx n1 n2))) true), ([0], .row ((celR r).map .tv) false)] 48 (by kernel_rfl) ?_ ?_
            · exact trivial
            refine at_seq ?_
            refine at_B [0, 1, 2, 7, 9, 10, 16, 17] [] [] [(1000000, .any), (0, .tv (.sli 13 (l.map celR))), (1, .tv (.int .i64 n1)), (2, .tv (.int .i64 n2)), (7, .ptr [0] 0), (9, .tv (.bool headB)), (10, .tv (.sli 13 (((countP l (mn n1 n2)).1).map celR))), (16, .tv (.int .i64 0)), (17, .tv (.int .i64 0))] [([0, 28], .row (flat celR (knownL l (mx n1 n2))) true), ([0], .row ((celR r).map .tv) false)] 49 (by kernel_rfl) ?_ ?_
            · exact trivial
            refine at_block ?_
            refine at_loopR (X := Nat × Nat) 0 (fun ((i, k) : Nat × Nat) => [(1000000, .any), (0, .tv (.sli 13 (l.map celR))), (1, .tv (.int .i64 n1)), (2, .tv (.int .i64 n2)), (7, .ptr [0] 0), (9, .tv (.bool headB)), (10, .tv (.sli 13 (((countP l (mn n1 n2)).1).map celR))), (16, .tv (.int .i64 ((k : Nat) : Int))), (17, .tv (.int .i64 ((i : Nat) : Int)))]) (fun ((i, k) : Nat × Nat) => [([0, 28], .row (flat celR (knownL l (mx n1 n2))) true), ([0], .row ((celR r).map .tv) false)]) (fun ((i, k) : Nat × Nat) => i ≤ (countP l (mn n1 n2)).1.length ∧ k ≤ l.length ∧ List.Sublist ((countP l (mn n1 n2)).1.drop i) (l.drop k)) (fun ((i, k) : Nat × Nat) => (countP l (mn n1 n2)).1.length - i) (0, 0) ?_ ?_ ?_
            · exact ⟨Nat.zero_le _, Nat.zero_le _, law6_s he⟩
            · exact rn_ok [([0, 28], [0, 28]), ([0], [0])] [[0, 28]] [0, 1, 2, 7, 9, 10, 16, 17] (⟨clO_flat _ _ _, trivial⟩) (by kernel_rfl)
            · rintro ⟨i, k⟩ hinv
              dsimp only at hinv ⊢
              obtain ⟨hz1, hz2, hz3⟩ := hinv
              refine at_seq ?_
              refine at_B [0, 1, 2, 7, 9, 10, 16, 17, 88] [] [] [(1000000, .any), (0, .tv (.sli 13 (l.map celR))), (1, .tv (.int .i64 n1)), (2, .tv (.int .i64 n2)), (7, .ptr [0] 0), (9, .tv (.bool headB)), (10, .tv (.sli 13 (((countP l (mn n1 n2)).1).map celR))), (16, .tv (.int .i64 ((k : Nat) : Int))), (17, .tv (.int .i64 ((i : Nat) : Int))), (88, .tv (.bool (decide (((i : Nat) : Int) < (((((countP l (mn n1 n2)).1).map celR).length : Nat) : Int)))))] [([0, 28], .row (flat celR (knownL l (mx n1 n2))) true), ([0], .row ((celR r).map .tv) false)] 4 (by kernel_rfl) ?_ ?_
              · exact trivial
              refine at_cond (b := (decide (((i : Nat) : Int) < (((((countP l (mn n1 n2)).1).map celR).length : Nat) : Int)))) rfl rfl (fun hc88 => ?_) (fun hc88 => ?_)
              · have q88 := hc88
                (try simp only [List.length_map, Bool.and_eq_true, Bool.or_eq_true, Bool.not_eq_true', decide_eq_true_eq, decide_eq_false_iff_not, Bool.and_eq_false_iff, Bool.or_eq_false_iff, Bool.not_eq_false'] at q88)
                refine at_skip ?_
                change AT _ _ _ _
                refine at_seq ?_
                refine at_block ?_
                refine at_seq ?_
                refine at_block ?_
                refine at_loopR (X := Nat) 0 (fun (k2 : Nat) => [(1000000, .any), (0, .tv (.sli 13 (l.map celR))), (1, .tv (.int .i64 n1)), (2, .tv (.int .i64 n2)), (7, .ptr [0] 0), (9, .tv (.bool headB)), (10, .tv (.sli 13 (((countP l (mn n1 n2)).1).map celR))), (16, .tv (.int .i64 ((k2 : Nat) : Int))), (17, .tv (.int .i64 ((i : Nat) : Int)))]) (fun (k2 : Nat) => [([0, 28], .row (flat celR (knownL l (mx n1 n2))) true), ([0], .row ((celR r).map .tv) false)]) (fun (k2 : Nat) => k2 ≤ l.length ∧ List.Sublist ((countP l (mn n1 n2)).1.drop i) (l.drop k2)) (fun (k2 : Nat) => l.length - k2) k ?_ ?_ ?_
                · exact ⟨hz2, hz3⟩
                · exact rn_ok [([0, 28], [0, 28]), ([0], [0])] [[0, 28]] [0, 1, 2, 7, 9, 10, 16, 17] (⟨clO_flat _ _ _, trivial⟩) (by kernel_rfl)
                · intro k2 hinv
                  obtain ⟨hy1, hy2⟩ := hinv
                  refine at_seq ?_
                  refine at_D [0, 0, 2, 7, 15, 31, 31, 127, 255, 31, 31, 1567, 3615, 8191, 16383, 32767] [0, 1, 2, 7, 9, 10, 16, 17, 106] [.std, .std, .std, .std, .std, .std, .std, .eq (.tv (.ptr (celR (l.getD k2 Ru.z)))), .std, .std, .std, .eq (.tv (.ptr (celR (((countP l (mn n1 n2)).1).getD i Ru.z)))), .std, .ret (.tv (.bool (sameR (l.getD k2 Ru.z) (((countP l (mn n1 n2)).1).getD i Ru.z))))] [((decide (((k2 : Nat) : Int) < (((l.map celR).length : Nat) : Int))) = true) → (0 ≤ ((k2 : Nat) : Int) ∧ ((k2 : Nat) : Int) < ((((l.map celR) : List (List TV)).length : Nat) : Int)), ((decide (((k2 : Nat) : Int) < (((l.map celR).length : Nat) : Int))) = true) → (.tv (.ptr (rowAt (l.map celR) ((k2 : Nat) : Int))) : AV) = .tv (.ptr (celR (l.getD k2 Ru.z))), ((decide (((k2 : Nat) : Int) < (((l.map celR).length : Nat) : Int))) = true) → (0 ≤ ((i : Nat) : Int) ∧ ((i : Nat) : Int) < ((((((countP l (mn n1 n2)).1).map celR) : List (List TV)).length : Nat) : Int)), ((decide (((k2 : Nat) : Int) < (((l.map celR).length : Nat) : Int))) = true) → (.tv (.ptr (rowAt (((countP l (mn n1 n2)).1).map celR) ((i : Nat) : Int))) : AV) = .tv (.ptr (celR (((countP l (mn n1 n2)).1).getD i Ru.z))), ((decide (((k2 : Nat) : Int) < (((l.map celR).length : Nat) : Int))) = true) → PureCall Try.prog 24 [agR (l.getD k2 Ru.z), agR (((countP l (mn n1 n2)).1).getD i Ru.z)] (.tv (.bool (sameR (l.getD k2 Ru.z) (((countP l (mn n1 n2)).1).getD i Ru.z))))] [(1000000, .any), (0, .tv (.sli 13 (l.map celR))), (1, .tv (.int .i64 n1)), (2, .tv (.int .i64 n2)), (7, .ptr [0] 0), (9, .tv (.bool headB)), (10, .tv (.sli 13 (((countP l (mn n1 n2)).1).map celR))), (16, .tv (.int .i64 ((k2 : Nat) : Int))), (17, .tv (.int .i64 ((i : Nat) : Int))), (106, .tv (.bool ((decide (((k2 : Nat) : Int) < (((l.map celR).length : Nat) : Int))) && (!(sameR (l.getD k2 Ru.z) (((countP l (mn n1 n2)).1).getD i Ru.z))))))] [([0, 28], .row (flat celR (knownL l (mx n1 n2))) true), ([0], .row ((celR r).map .tv) false)] 16 (by kernel_rfl) ?_ ?_
                  · exact ⟨fun hg0 => by (try simp only [List.length_map, Bool.and_eq_true, Bool.or_eq_true, Bool.not_eq_true', decide_eq_true_eq, decide_eq_false_iff_not, Bool.and_eq_false_iff, Bool.or_eq_false_iff, Bool.not_eq_false', List.length_append, List.length_cons, List.length_nil, List.length_set] at *); omega, fun hg0 => congrArg (fun c => AV.tv (.ptr c)) (row_R l ((k2 : Nat) : Int) (by (try simp only [List.length_map, Bool.and_eq_true, Bool.or_eq_true, Bool.not_eq_true', decide_eq_true_eq, decide_eq_false_iff_not, Bool.and_eq_false_iff, Bool.or_eq_false_iff, Bool.not_eq_false', List.length_append, List.length_cons, List.length_nil, List.length_set] at *); omega)), fun hg0 => by (try simp only [List.length_map, Bool.and_eq_true, Bool.or_eq_true, Bool.not_eq_true', decide_eq_true_eq, decide_eq_false_iff_not, Bool.and_eq_false_iff, Bool.or_eq_false_iff, Bool.not_eq_false', List.length_append, List.length_cons, List.length_nil, List.length_set] at *); omega, fun hg0 => congrArg (fun c => AV.tv (.ptr c)) (row_R ((countP l (mn n1 n2)).1) ((i : Nat) : Int) (by (try simp only [List.length_map, Bool.and_eq_true, Bool.or_eq_true, Bool.not_eq_true', decide_eq_true_eq, decide_eq_false_iff_not, Bool.and_eq_false_iff, Bool.or_eq_false_iff, Bool.not_eq_false', List.length_append, List.length_cons, List.length_nil, List.length_set] at *); omega)), fun hg0 => (c24 (l.getD k2 Ru.z) (((countP l (mn n1 n2)).1).getD i Ru.z)), trivial⟩
                  refine at_cond (b := ((decide (((k2 : Nat) : Int) < (((l.map celR).length : Nat) : Int))) && (!(sameR (l.getD k2 Ru.z) (((countP l (mn n1 n2)).1).getD i Ru.z))))) rfl rfl (fun hc106 => ?_) (fun hc106 => ?_)
                  · have q106 := hc106
                    (try simp only [List.length_map, Bool.and_eq_true, Bool.or_eq_true, Bool.not_eq_true', decide_eq_true_eq, decide_eq_false_iff_not, Bool.and_eq_false_iff, Bool.or_eq_false_iff, Bool.not_eq_false'] at q106)
                    refine at_skip ?_
                    change AT _ _ _ _
                    refine at_block ?_
                    refine at_Bl [0, 1, 2, 7, 9, 10, 16, 17] [.std, .eq (.tv (.int .i64 ((k2 + 1 : Nat) : Int)))] [(.tv (.int .i64 (wr (((k2 : Nat) : Int) + 1))) : AV) = .tv (.int .i64 ((k2 + 1 : Nat) : Int))] [(1000000, .any), (0, .tv (.sli 13 (l.map celR))), (1, .tv (.int .i64 n1)), (2, .tv (.int .i64 n2)), (7, .ptr [0] 0), (9, .tv (.bool headB)), (10, .tv (.sli 13 (((countP l (mn n1 n2)).1).map celR))), (16, .tv (.int .i64 ((k2 + 1 : Nat) : Int))), (17, .tv (.int .i64 ((i : Nat) : Int)))] [([0, 28], .row (flat celR (knownL l (mx n1 n2))) true), ([0], .row ((celR r).map .tv) false)] 19 (by kernel_rfl) ?_ ?_
                    · exact ⟨succ_av k2 (by (try simp only [List.length_map, List.length_append, List.length_cons, List.length_nil, List.length_set] at *); omega), trivial⟩
                    refine ⟨rfl, (k2 + 1), ?_, ?_, ?_⟩
                    · (try dsimp only); omega
                    · exact ⟨by omega, sub_miss hy2 (by omega) (by omega) q106.2⟩
                    · exact rn_ok [([0, 28], [0, 28]), ([0], [0])] [[0, 28]] [0, 1, 2, 7, 9, 10, 16, 17] (⟨clO_flat _ _ _, trivial⟩) (by kernel_rfl)
                  · have q106 := hc106
                    (try simp only [List.length_map, Bool.and_eq_true, Bool.or_eq_true, Bool.not_eq_true', decide_eq_true_eq, decide_eq_false_iff_not, Bool.and_eq_false_iff, Bool.or_eq_false_iff, Bool.not_eq_false'] at q106)
                    refine at_exit ?_
                    change AT _ _ _ _
                    refine at_seq ?_
                    refine at_B [0, 1, 2, 7, 9, 10, 16, 17, 123] [.std, .std, .std, .std, .std, .std, .std, .eq (.tv (.ptr (celR (((countP l (mn n1 n2)).1).getD i Ru.z))))] [((decide (((k2 : Nat) : Int) = (((l.map celR).length : Nat) : Int))) = false) → (0 ≤ ((i : Nat) : Int) ∧ ((i : Nat) : Int) < ((((((countP l (mn n1 n2)).1).map celR) : List (List TV)).length : Nat) : Int)), ((decide (((k2 : Nat) : Int) = (((l.map celR).length : Nat) : Int))) = false) → (.tv (.ptr (rowAt (((countP l (mn n1 n2)).1).map celR) ((i : Nat) : Int))) : AV) = .tv (.ptr (celR (((countP l (mn n1 n2)).1).getD i Ru.z)))] [(1000000, .any), (0, .tv (.sli 13 (l.map celR))), (1, .tv (.int .i64 n1)), (2, .tv (.int .i64 n2)), (7, .ptr [0] 0), (9, .tv (.bool headB)), (10, .tv (.sli 13 (((countP l (mn n1 n2)).1).map celR))), (16, .tv (.int .i64 ((k2 : Nat) : Int))), (17, .tv (.int .i64 ((i : Nat) : Int))), (123, .tv (.bool ((decide (((k2 : Nat) : Int) = (((l.map celR).length : Nat) : Int))) || (decide (mn n1 n2 < (((countP l (mn n1 n2)).1).getD i Ru.z).kn)))))] [([0, 28], .row (flat celR (knownL l (mx n1 n2))) true), ([0], .row ((celR r).map .tv) false)] 20 (by kernel_rfl) ?_ ?_
                    · exact ⟨fun hg0 => by (try simp only [List.length_map, Bool.and_eq_true, Bool.or_eq_true, Bool.not_eq_true', decide_eq_true_eq, decide_eq_false_iff_not, Bool.and_eq_false_iff, Bool.or_eq_false_iff, Bool.not_eq_false', List.length_append, List.length_cons, List.length_nil, List.length_set] at *); omega, fun hg0 => congrArg (fun c => AV.tv (.ptr c)) (row_R ((countP l (mn n1 n2)).1) ((i : Nat) : Int) (by (try simp only [List.length_map, Bool.and_eq_true, Bool.or_eq_true, Bool.not_eq_true', decide_eq_true_eq, decide_eq_false_iff_not, Bool.and_eq_false_iff, Bool.or_eq_false_iff, Bool.not_eq_false', List.length_append, List.length_cons, List.length_nil, List.length_set] at *); omega)), trivial⟩
                    refine at_cond (b := ((decide (((k2 : Nat) : Int) = (((l.map celR).length : Nat) : Int))) || (decide (mn n1 n2 < (((countP l (mn n1 n2)).1).getD i Ru.z).kn)))) rfl rfl (fun hc123 => ?_) (fun hc123 => ?_)
                    · have q123 := hc123
                      (try simp only [List.length_map, Bool.and_eq_true, Bool.or_eq_true, Bool.not_eq_true', decide_eq_true_eq, decide_eq_false_iff_not, Bool.and_eq_false_iff, Bool.or_eq_false_iff, Bool.not_eq_false'] at q123)
                      exfalso
                      rcases q123 with h | h
                      · have := sub_end hy2 (by omega); omega
                      · have := law6_k he (i := i) (by omega); omega
                    · have q123 := hc123
                      (try simp only [List.length_map, Bool.and_eq_true, Bool.or_eq_true, Bool.not_eq_true', decide_eq_true_eq, decide_eq_false_iff_not, Bool.and_eq_false_iff, Bool.or_eq_false_iff, Bool.not_eq_false'] at q123)
                      refine at_skip ?_
                      change AT _ _ _ _
                      refine at_Bl [0, 1, 2, 7, 9, 10, 16, 17] [.std, .eq (.tv (.int .i64 ((k2 + 1 : Nat) : Int)))] [(.tv (.int .i64 (wr (((k2 : Nat) : Int) + 1))) : AV) = .tv (.int .i64 ((k2 + 1 : Nat) : Int))] [(1000000, .any), (0, .tv (.sli 13 (l.map celR))), (1, .tv (.int .i64 n1)), (2, .tv (.int .i64 n2)), (7, .ptr [0] 0), (9, .tv (.bool headB)), (10, .tv (.sli 13 (((countP l (mn n1 n2)).1).map celR))), (16, .tv (.int .i64 ((k2 + 1 : Nat) : Int))), (17, .tv (.int .i64 ((i : Nat) : Int)))] [([0, 28], .row (flat celR (knownL l (mx n1 n2))) true), ([0], .row ((celR r).map .tv) false)] 23 (by kernel_rfl) ?_ ?_
                      · exact ⟨succ_av k2 (by (try simp only [List.length_map, List.length_append, List.length_cons, List.length_nil, List.length_set] at *); omega), trivial⟩
                      change AT _ _ _ _
                      refine at_Bl [0, 1, 2, 7, 9, 10, 16, 17] [.std, .eq (.tv (.int .i64 ((i + 1 : Nat) : Int)))] [(.tv (.int .i64 (wr (((i : Nat) : Int) + 1))) : AV) = .tv (.int .i64 ((i + 1 : Nat) : Int))] [(1000000, .any), (0, .tv (.sli 13 (l.map celR))), (1, .tv (.int .i64 n1)), (2, .tv (.int .i64 n2)), (7, .ptr [0] 0), (9, .tv (.bool headB)), (10, .tv (.sli 13 (((countP l (mn n1 n2)).1).map celR))), (16, .tv (.int .i64 ((k2 + 1 : Nat) : Int))), (17, .tv (.int .i64 ((i + 1 : Nat) : Int)))] [([0, 28], .row (flat celR (knownL l (mx n1 n2))) true), ([0], .row ((celR r).map .tv) false)] 26 (by kernel_rfl) ?_ ?_
                      · exact ⟨succ_av i (by (try simp only [List.length_map, List.length_append, List.length_cons, List.length_nil, List.length_set] at *); omega), trivial⟩
                      refine ⟨rfl, (i + 1, k2 + 1), ?_, ?_, ?_⟩
                      · (try dsimp only); omega
                      · (try dsimp only); exact ⟨by omega, by omega, sub_hit hy2⟩
                      · exact rn_ok [([0, 28], [0, 28]), ([0], [0])] [[0, 28]] [0, 1, 2, 7, 9, 10, 16, 17] (⟨clO_flat _ _ _, trivial⟩) (by kernel_rfl)
              · have q88 := hc88
                (try simp only [List.length_map, Bool.and_eq_true, Bool.or_eq_true, Bool.not_eq_true', decide_eq_true_eq, decide_eq_false_iff_not, Bool.and_eq_false_iff, Bool.or_eq_false_iff, Bool.not_eq_false'] at q88)
                refine at_exit ?_
                change AT _ _ _ _
                refine at_seq ?_
                refine at_B [0, 1, 2, 7, 9, 10, 132] [] [] [(1000000, .any), (0, .tv (.sli 13 (l.map celR))), (1, .tv (.int .i64 n1)), (2, .tv (.int .i64 n2)), (7, .ptr [0] 0), (9, .tv (.bool headB)), (10, .tv (.sli 13 (((countP l (mn n1 n2)).1).map celR))), (132, .tv (.bool ((decide (r.kd = (6 : Int))) || r.fin)))] [([0, 28], .row (flat celR (knownL l (mx n1 n2))) true), ([0], .row ((celR r).map .tv) false)] 57 (by kernel_rfl) ?_ ?_
                · exact trivial
                refine at_cond (b := ((decide (r.kd = (6 : Int))) || r.fin)) rfl rfl (fun hc132 => ?_) (fun hc132 => ?_)
                · have q132 := hc132
                  (try simp only [List.length_map, Bool.and_eq_true, Bool.or_eq_true, Bool.not_eq_true', decide_eq_true_eq, decide_eq_false_iff_not, Bool.and_eq_false_iff, Bool.or_eq_false_iff, Bool.not_eq_false'] at q132)
                  refine at_B [8] [] [] [(1000000, .any), (8, .tv (.bool headB))] [([0, 28], .row (flat celR (knownL l (mx n1 n2))) true), ([0], .row ((celR r).map .tv) false)] 59 (by kernel_rfl) ?_ ?_
                  · exact trivial
                  refine at_ret ?_
                  refine fin0 (.inr rfl) (.tv (.bool headB)) [([0, 28], .row (flat celR (knownL l (mx n1 n2))) true), ([0], .row ((celR r).map .tv) false)] (.tv (.bool headB)) (H2 := [([0, 28], .row (flat celR (knownL l (mx n1 n2))) true), ([0], .row ((celR r).map .tv) false)]) (by kernel_rfl) (by kernel_rfl) ?_
                  refine Le.of_eq ?_
                  rw [head_true]
                · have q132 := hc132
                  (try simp only [List.length_map, Bool.and_eq_true, Bool.or_eq_true, Bool.not_eq_true', decide_eq_true_eq, decide_eq_false_iff_not, Bool.and_eq_false_iff, Bool.or_eq_false_iff, Bool.not_eq_false'] at q132)
                  have h6 : r.kd ≠ 6 := q132.1
                  have hf : r.fin = false := q132.2
                  refine at_skip ?_
                  change AT _ _ _ _
                  refine at_D [0, 0, 3, 0, 8, 31, 0, 0, 192, 511, 1023, 2047, 2047, 4095, 16383] [9, 10, 18, 19] [.std, .std, .eff (.sl [59] 13 0 l.length) (.row (flat celR l) false), .std, .eq (.tv (.sli 13 (([r] : List _).map celR))), .eff (.sl [62] 13 0 (l ++ [r]).length) (.row (flat celR (l ++ [r])) false), .std, .std, .std, .frz1 [.tv (.sli 13 ((l ++ [r]).map celR)), .tv (.int .i64 (mn n1 n2))] [62] (.row (flat celR (l ++ [r])) true) (.tup [.tv (.sli 13 (((countP (l ++ [r]) (mn n1 n2)).1).map celR)), .tv (.int .i64 ((countP (l ++ [r]) (mn n1 n2)).2))])] [(13 = 13 ∧ 0 = 0 ∧ ([] : List AV).length = 0 * 13 ∧ 0 + (l.map celR).length ≤ 9223372036854775807 ∧ (0 + (l.map celR).length) * 152 ≤ 140737488355328), (.sl [59] 13 0 (0 + (l.map celR).length) : AV) = .sl [59] 13 0 l.length, (.row (([] : List AV) ++ (List.map AV.tv (List.flatten (l.map celR)))) false : AO) = .row (flat celR l) false, (.tv (.sli 13 [(celR r)]) : AV) = .tv (.sli 13 (([r] : List _).map celR)), (13 = 13 ∧ 0 = 0 ∧ (flat celR l).length = l.length * 13 ∧ l.length + 1 ≤ 9223372036854775807 ∧ (l.length + 1) * 152 ≤ 140737488355328), (.sl [62] 13 0 (l.length + 1) : AV) = .sl [62] 13 0 (l ++ [r]).length, (.row ((flat celR l) ++ (List.map AV.tv (List.flatten (([r] : List _).map celR)))) false : AO) = .row (flat celR (l ++ [r])) false, frz1 [([62], .row (flat celR (l ++ [r])) false), ([0, 28], .row (flat celR (knownL l (mx n1 n2))) true), ([0], .row ((celR r).map .tv) false)] [.sl [62] 13 0 (l ++ [r]).length, .tv (.int .i64 (mn n1 n2))] = some ([.tv (.sli 13 ((l ++ [r]).map celR)), .tv (.int .i64 (mn n1 n2))], [62], .row (flat celR (l ++ [r])) true), PureCall Try.prog 12 [.tv (.sli 13 ((l ++ [r]).map celR)), .tv (.int .i64 (mn n1 n2))] (.tup [.tv (.sli 13 (((countP (l ++ [r]) (mn n1 n2)).1).map celR)), .tv (.int .i64 ((countP (l ++ [r]) (mn n1 n2)).2))])] [(1000000, .any), (9, .tv (.bool headB)), (10, .tv (.sli 13 (((countP l (mn n1 n2)).1).map celR))), (18, .tv (.sli 13 (((countP (l ++ [r]) (mn n1 n2)).1).map celR))), (19, .tv (.int .i64 ((countP (l ++ [r]) (mn n1 n2)).2)))] [([62], .row (flat celR (l ++ [r])) true), ([0, 28], .row (flat celR (knownL l (mx n1 n2))) true), ([0], .row ((celR r).map .tv) false)] 72 (by kernel_rfl) ?_ ?_
                  · exact ⟨⟨rfl, rfl, rfl, by (try simp only [List.length_map, Bool.and_eq_true, Bool.or_eq_true, Bool.not_eq_true', decide_eq_true_eq, decide_eq_false_iff_not, Bool.and_eq_false_iff, Bool.or_eq_false_iff, Bool.not_eq_false', List.length_append, List.length_cons, List.length_nil, List.length_set] at *); omega, by (try simp only [List.length_map, Bool.and_eq_true, Bool.or_eq_true, Bool.not_eq_true', decide_eq_true_eq, decide_eq_false_iff_not, Bool.and_eq_false_iff, Bool.or_eq_false_iff, Bool.not_eq_false', List.length_append, List.length_cons, List.length_nil, List.length_set] at *); omega⟩, by simp, congrArg (AO.row · false) (flat_mk (rfl)), rfl, ⟨rfl, rfl, flat_len (sz := 13) (fun _ => rfl) _, by (try simp only [List.length_map, Bool.and_eq_true, Bool.or_eq_true, Bool.not_eq_true', decide_eq_true_eq, decide_eq_false_iff_not, Bool.and_eq_false_iff, Bool.or_eq_false_iff, Bool.not_eq_false', List.length_append, List.length_cons, List.length_nil, List.length_set] at *); omega, by (try simp only [List.length_map, Bool.and_eq_true, Bool.or_eq_true, Bool.not_eq_true', decide_eq_true_eq, decide_eq_false_iff_not, Bool.and_eq_false_iff, Bool.or_eq_false_iff, Bool.not_eq_false', List.length_append, List.length_cons, List.length_nil, List.length_set] at *); omega⟩, by simp, congrArg (AO.row · false) (flat_app (rfl)), frz1_flat (enc := celR) (l := (l ++ [r])) (sz := 13) rfl (fun _ => rfl) (by decide) (by first | rfl | (simp only [List.length_append, List.length_cons, List.length_nil, List.length_set, List.length_map, List.length_reverse]; done) | (simp only [List.length_append, List.length_cons, List.length_nil, List.length_set, List.length_map, List.length_reverse]; omega)), (c12 (l ++ [r]) (mn n1 n2)), trivial⟩
                  refine at_seq ?_
                  refine at_B [9, 10, 18, 148] [] [] [(1000000, .any), (9, .tv (.bool headB)), (10, .tv (.sli 13 (((countP l (mn n1 n2)).1).map celR))), (18, .tv (.sli 13 (((countP (l ++ [r]) (mn n1 n2)).1).map celR))), (148, .tv (.bool (!decide ((countP (l ++ [r]) (mn n1 n2)).2 = (0 : Int)))))] [([62], .row (flat celR (l ++ [r])) true), ([0, 28], .row (flat celR (knownL l (mx n1 n2))) true), ([0], .row ((celR r).map .tv) false)] 74 (by kernel_rfl) ?_ ?_
                  · exact trivial
                  refine at_cond (b := (!decide ((countP (l ++ [r]) (mn n1 n2)).2 = (0 : Int)))) rfl rfl (fun hc148 => ?_) (fun hc148 => ?_)
                  · have q148 := hc148
                    (try simp only [List.length_map, Bool.and_eq_true, Bool.or_eq_true, Bool.not_eq_true', decide_eq_true_eq, decide_eq_false_iff_not, Bool.and_eq_false_iff, Bool.or_eq_false_iff, Bool.not_eq_false'] at q148)
                    refine at_B [8] [] [] [(1000000, .any), (8, .tv (.bool headB))] [([62], .row (flat celR (l ++ [r])) true), ([0, 28], .row (flat celR (knownL l (mx n1 n2))) true), ([0], .row ((celR r).map .tv) false)] 76 (by kernel_rfl) ?_ ?_
                    · exact trivial
                    refine at_ret ?_
                    refine fin0 (.inr rfl) (.tv (.bool headB)) [([62], .row (flat celR (l ++ [r])) true), ([0, 28], .row (flat celR (knownL l (mx n1 n2))) true), ([0], .row ((celR r).map .tv) false)] (.tv (.bool headB)) (H2 := [([62], .row (flat celR (l ++ [r])) true), ([0, 28], .row (flat celR (knownL l (mx n1 n2))) true), ([0], .row ((celR r).map .tv) false)]) (by kernel_rfl) (by kernel_rfl) ?_
                    refine Le.of_eq ?_
                    rw [head_true]
                  · have q148 := hc148
                    (try simp only [List.length_map, Bool.and_eq_true, Bool.or_eq_true, Bool.not_eq_true', decide_eq_true_eq, decide_eq_false_iff_not, Bool.and_eq_false_iff, Bool.or_eq_false_iff, Bool.not_eq_false'] at q148)
                    have hg : (countP (l ++ [r]) (mn n1 n2)).2 = 0 := by simpa using hc148
                    refine at_skip ?_
                    change AT _ _ _ _
                    refine at_B [8] [.std, .std, .std, .std, .std, .std, .std, .std, .std, .std, .std, .std, .std, .std, .std, .std, .std, .std, .std, .std, .eq (.tv (.sli 13 ((((countP (l ++ [r]) (mn n1 n2)).1).take (((countP l (mn n1 n2)).1).map celR).length).map celR))), .std, .ret (.tv (.bool (all2 sameR Ru.z (((countP (l ++ [r]) (mn n1 n2)).1).take (((countP l (mn n1 n2)).1).map celR).length) ((countP l (mn n1 n2)).1))))] [(((headB && (decide ((((((countP l (mn n1 n2)).1).map celR).length : Nat) : Int) ≤ (((((countP (l ++ [r]) (mn n1 n2)).1).map celR).length : Nat) : Int)))) && (decide ((((((countP (l ++ [r]) (mn n1 n2)).1).map celR).length : Nat) : Int) ≤ wr ((((((countP l (mn n1 n2)).1).map celR).length : Nat) : Int) + 1)))) = true) → (0 ≤ (0 : Int) ∧ (0 : Int) ≤ (((((countP l (mn n1 n2)).1).map celR).length : Nat) : Int) ∧ (((((countP l (mn n1 n2)).1).map celR).length : Nat) : Int) ≤ (((((countP (l ++ [r]) (mn n1 n2)).1).map celR).length : Nat) : Int)), (((headB && (decide ((((((countP l (mn n1 n2)).1).map celR).length : Nat) : Int) ≤ (((((countP (l ++ [r]) (mn n1 n2)).1).map celR).length : Nat) : Int)))) && (decide ((((((countP (l ++ [r]) (mn n1 n2)).1).map celR).length : Nat) : Int) ≤ wr ((((((countP l (mn n1 n2)).1).map celR).length : Nat) : Int) + 1)))) = true) → (.tv (.sli 13 (((((countP (l ++ [r]) (mn n1 n2)).1).map celR).take ((((((countP l (mn n1 n2)).1).map celR).length : Nat) : Int)).toNat).drop ((0 : Int)).toNat)) : AV) = .tv (.sli 13 ((((countP (l ++ [r]) (mn n1 n2)).1).take (((countP l (mn n1 n2)).1).map celR).length).map celR)), (((headB && (decide ((((((countP l (mn n1 n2)).1).map celR).length : Nat) : Int) ≤ (((((countP (l ++ [r]) (mn n1 n2)).1).map celR).length : Nat) : Int)))) && (decide ((((((countP (l ++ [r]) (mn n1 n2)).1).map celR).length : Nat) : Int) ≤ wr ((((((countP l (mn n1 n2)).1).map celR).length : Nat) : Int) + 1)))) = true) → PureCall Try.prog 14 [.tv (.sli 13 ((((countP (l ++ [r]) (mn n1 n2)).1).take (((countP l (mn n1 n2)).1).map celR).length).map celR)), .tv (.sli 13 (((countP l (mn n1 n2)).1).map celR))] (.tv (.bool (all2 sameR Ru.z (((countP (l ++ [r]) (mn n1 n2)).1).take (((countP l (mn n1 n2)).1).map celR).length) ((countP l (mn n1 n2)).1))))] [(1000000, .any), (8, .tv (.bool (((headB && (decide ((((((countP l (mn n1 n2)).1).map celR).length : Nat) : Int) ≤ (((((countP (l ++ [r]) (mn n1 n2)).1).map celR).length : Nat) : Int)))) && (decide ((((((countP (l ++ [r]) (mn n1 n2)).1).map celR).length : Nat) : Int) ≤ wr ((((((countP l (mn n1 n2)).1).map celR).length : Nat) : Int) + 1)))) && (all2 sameR Ru.z (((countP (l ++ [r]) (mn n1 n2)).1).take (((countP l (mn n1 n2)).1).map celR).length) ((countP l (mn n1 n2)).1)))))] [([62], .row (flat celR (l ++ [r])) true), ([0, 28], .row (flat celR (knownL l (mx n1 n2))) true), ([0], .row ((celR r).map .tv) false)] 99 (by kernel_rfl) ?_ ?_
                    · exact ⟨fun hg0 => by (try simp only [List.length_map, Bool.and_eq_true, Bool.or_eq_true, Bool.not_eq_true', decide_eq_true_eq, decide_eq_false_iff_not, Bool.and_eq_false_iff, Bool.or_eq_false_iff, Bool.not_eq_false', List.length_append, List.length_cons, List.length_nil, List.length_set] at *); omega, fun hg0 => by simp [List.map_take, List.map_drop], fun hg0 => (c14 (((countP (l ++ [r]) (mn n1 n2)).1).take (((countP l (mn n1 n2)).1).map celR).length) ((countP l (mn n1 n2)).1)), trivial⟩
                    refine at_ret ?_
                    refine fin0 (.inr rfl) (.tv (.bool (((headB && (decide ((((((countP l (mn n1 n2)).1).map celR).length : Nat) : Int) ≤ (((((countP (l ++ [r]) (mn n1 n2)).1).map celR).length : Nat) : Int)))) && (decide ((((((countP (l ++ [r]) (mn n1 n2)).1).map celR).length : Nat) : Int) ≤ wr ((((((countP l (mn n1 n2)).1).map celR).length : Nat) : Int) + 1)))) && (all2 sameR Ru.z (((countP (l ++ [r]) (mn n1 n2)).1).take (((countP l (mn n1 n2)).1).map celR).length) ((countP l (mn n1 n2)).1))))) [([62], .row (flat celR (l ++ [r])) true), ([0, 28], .row (flat celR (knownL l (mx n1 n2))) true), ([0], .row ((celR r).map .tv) false)] (.tv (.bool (((headB && (decide ((((((countP l (mn n1 n2)).1).map celR).length : Nat) : Int) ≤ (((((countP (l ++ [r]) (mn n1 n2)).1).map celR).length : Nat) : Int)))) && (decide ((((((countP (l ++ [r]) (mn n1 n2)).1).map celR).length : Nat) : Int) ≤ wr ((((((countP l (mn n1 n2)).1).map celR).length : Nat) : Int) + 1)))) && (all2 sameR Ru.z (((countP (l ++ [r]) (mn n1 n2)).1).take (((countP l (mn n1 n2)).1).map celR).length) ((countP l (mn n1 n2)).1))))) (H2 := [([62], .row (flat celR (l ++ [r])) true), ([0, 28], .row (flat celR (knownL l (mx n1 n2))) true), ([0], .row ((celR r).map .tv) false)]) (by kernel_rfl) (by kernel_rfl) ?_
                    refine Le.of_eq ?_
                    simp only [List.length_map]
                    rw [wr_fit _ (by omega), law6_fin he hg h6 hf]
end Go.Proofs.Ythmimpiegnnmdaa
