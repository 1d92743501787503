/- Walks of the small functions. -/
import Derived.Test.YthmimpiegnnmdaaLaw5
namespace Go.Proofs.Ythmimpiegnnmdaa
open Go.RowKit
set_option maxRecDepth 10000
set_option linter.unusedSimpArgs false
set_option linter.unusedVariables false

theorem c7 (l : (List Ru)) (kn : Int)  : PureCall Try.prog 7 [.tv (.sli 13 (l.map celR)), .tv (.int .i64 kn)] (.tv (.bool true)) := by
  refine walk0 (fn := Try.f7) [.tmp 4] Try.func7 rfl (by kernel_rfl) rfl (by kernel_rfl) (by kernel_rfl) ?_
  change AT _ _ _ ⟨[(0, .tv (.sli 13 (l.map celR))), (1, .tv (.int .i64 kn))], [], [], 0⟩
  refine at_len 0 rfl (fun hlen => ?_)
  refine at_B [0, 1] [] [] [(1000000, .any), (0, .tv (.sli 13 (l.map celR))), (1, .tv (.int .i64 kn))] [] 1 (by kernel_rfl) ?_ ?_
  · exact trivial
  refine at_B [0, 1, 5] [.ret (.tv (.bool headB))] [PureCall Try.prog 9 [] (.tv (.bool headB))] [(1000000, .any), (0, .tv (.sli 13 (l.map celR))), (1, .tv (.int .i64 kn)), (5, .tv (.bool headB))] [] 3 (by kernel_rfl) ?_ ?_
  · exact ⟨(c9), trivial⟩
  refine at_seq ?_
  refine at_B [0, 1, 5, 20] [.std, .ret (.tv (.bool (fewR l 14)))] [PureCall Try.prog 10 [.tv (.sli 13 (l.map celR)), .tv (.int .i64 14)] (.tv (.bool (fewR l 14)))] [(1000000, .any), (0, .tv (.sli 13 (l.map celR))), (1, .tv (.int .i64 kn)), (5, .tv (.bool headB)), (20, .tv (.bool (!(fewR l 14))))] [] 6 (by kernel_rfl) ?_ ?_
  · exact ⟨(c10 l 14), trivial⟩
  refine at_cond (b := (!(fewR l 14))) rfl rfl (fun hc20 => ?_) (fun hc20 => ?_)
  · have q20 := hc20
    (try simp only [List.length_map, Bool.and_eq_true, Bool.or_eq_true, Bool.not_eq_true', decide_eq_true_eq, decide_eq_false_iff_not, Bool.and_eq_false_iff, Bool.or_eq_false_iff, Bool.not_eq_false'] at q20)
    refine at_B [4] [] [] [(1000000, .any), (4, .tv (.bool headB))] [] 8 (by kernel_rfl) ?_ ?_
    · exact trivial
    refine at_ret ?_
    refine fin0 (.inr rfl) (.tv (.bool headB)) [] (.tv (.bool headB)) (H2 := []) (by kernel_rfl) (by kernel_rfl) ?_
    refine Le.of_eq ?_
    rw [head_true]
  · have q20 := hc20
    (try simp only [List.length_map, Bool.and_eq_true, Bool.or_eq_true, Bool.not_eq_true', decide_eq_true_eq, decide_eq_false_iff_not, Bool.and_eq_false_iff, Bool.or_eq_false_iff, Bool.not_eq_false'] at q20)
    refine at_skip ?_
    change AT _ _ _ _
    refine at_B [0, 1, 5, 6, 7] [.std, .std, .ret (.tup [.tv (.sli 13 (((countP l kn).1).map celR)), .tv (.int .i64 ((countP l kn).2))])] [PureCall Try.prog 12 [.tv (.sli 13 (l.map celR)), .tv (.int .i64 kn)] (.tup [.tv (.sli 13 (((countP l kn).1).map celR)), .tv (.int .i64 ((countP l kn).2))])] [(1000000, .any), (0, .tv (.sli 13 (l.map celR))), (1, .tv (.int .i64 kn)), (5, .tv (.bool headB)), (6, .tv (.sli 13 (((countP l kn).1).map celR))), (7, .tv (.int .i64 ((countP l kn).2)))] [] 14 (by kernel_rfl) ?_ ?_
    · exact ⟨(c12 l kn), trivial⟩
    refine at_seq ?_
    refine at_B [0, 1, 5, 6, 29] [] [] [(1000000, .any), (0, .tv (.sli 13 (l.map celR))), (1, .tv (.int .i64 kn)), (5, .tv (.bool headB)), (6, .tv (.sli 13 (((countP l kn).1).map celR))), (29, .tv (.bool (!decide ((countP l kn).2 = (0 : Int)))))] [] 16 (by kernel_rfl) ?_ ?_
    · exact trivial
    refine at_cond (b := (!decide ((countP l kn).2 = (0 : Int)))) rfl rfl (fun hc29 => ?_) (fun hc29 => ?_)
    · have q29 := hc29
      (try simp only [List.length_map, Bool.and_eq_true, Bool.or_eq_true, Bool.not_eq_true', decide_eq_true_eq, decide_eq_false_iff_not, Bool.and_eq_false_iff, Bool.or_eq_false_iff, Bool.not_eq_false'] at q29)
      refine at_B [4] [] [] [(1000000, .any), (4, .tv (.bool headB))] [] 18 (by kernel_rfl) ?_ ?_
      · exact trivial
      refine at_ret ?_
      refine fin0 (.inr rfl) (.tv (.bool headB)) [] (.tv (.bool headB)) (H2 := []) (by kernel_rfl) (by kernel_rfl) ?_
      refine Le.of_eq ?_
      rw [head_true]
    · have q29 := hc29
      (try simp only [List.length_map, Bool.and_eq_true, Bool.or_eq_true, Bool.not_eq_true', decide_eq_true_eq, decide_eq_false_iff_not, Bool.and_eq_false_iff, Bool.or_eq_false_iff, Bool.not_eq_false'] at q29)
      have he : OkC l kn := count_was (by simpa using hc29)
      have hal : (countP l kn).1.length ≤ l.length := by rw [count_ok he]; exact (ot_sub l).length_le
      refine at_skip ?_
      change AT _ _ _ _
      refine at_B [0, 1, 5, 6, 8] [] [] [(1000000, .any), (0, .tv (.sli 13 (l.map celR))), (1, .tv (.int .i64 kn)), (5, .tv (.bool headB)), (6, .tv (.sli 13 (((countP l kn).1).map celR))), (8, .map [16])] [([16], .smap [])] 18 (by kernel_rfl) ?_ ?_
      · exact trivial
      refine at_B [0, 1, 5, 6, 8, 9] [] [] [(1000000, .any), (0, .tv (.sli 13 (l.map celR))), (1, .tv (.int .i64 kn)), (5, .tv (.bool headB)), (6, .tv (.sli 13 (((countP l kn).1).map celR))), (8, .map [16]), (9, .map [18])] [([18], .smap []), ([16], .smap [])] 20 (by kernel_rfl) ?_ ?_
      · exact trivial
      refine at_seq ?_
      refine at_B [0, 1, 5, 6, 8, 9, 10] [] [] [(1000000, .any), (0, .tv (.sli 13 (l.map celR))), (1, .tv (.int .i64 kn)), (5, .tv (.bool headB)), (6, .tv (.sli 13 (((countP l kn).1).map celR))), (8, .map [16]), (9, .map [18]), (10, .tv (.int .i64 0))] [([18], .smap []), ([16], .smap [])] 21 (by kernel_rfl) ?_ ?_
      · exact trivial
      refine at_block ?_
      refine at_loopR (X := Nat × Mb) 0 (fun ((i0, im) : Nat × Mb) => [(1000000, .any), (0, .tv (.sli 13 (l.map celR))), (1, .tv (.int .i64 kn)), (5, .tv (.bool headB)), (6, .tv (.sli 13 (((countP l kn).1).map celR))), (8, .map [16]), (9, .map [18]), (10, .tv (.int .i64 ((i0 : Nat) : Int)))]) (fun ((i0, im) : Nat × Mb) => [([18], .smap []), ([16], .smap (mB im))]) (fun ((i0, im) : Nat × Mb) => i0 ≤ (countP l kn).1.length ∧ ((countP l kn).1.drop i0).foldl idsS im = idsM (countP l kn).1) (fun ((i0, im) : Nat × Mb) => (countP l kn).1.length - i0) (0, []) ?_ ?_ ?_
      · exact ⟨Nat.zero_le _, rfl⟩
      · exact rn_ok [([18], [18]), ([16], [16])] [] [0, 1, 5, 6, 8, 9, 10] (trivial) (by kernel_rfl)
      · rintro ⟨i0, im⟩ hinv
        dsimp only at hinv ⊢
        obtain ⟨hx1, hx2⟩ := hinv
        refine at_seq ?_
        refine at_B [0, 1, 5, 6, 8, 9, 10, 36] [] [] [(1000000, .any), (0, .tv (.sli 13 (l.map celR))), (1, .tv (.int .i64 kn)), (5, .tv (.bool headB)), (6, .tv (.sli 13 (((countP l kn).1).map celR))), (8, .map [16]), (9, .map [18]), (10, .tv (.int .i64 ((i0 : Nat) : Int))), (36, .tv (.bool (decide (((i0 : Nat) : Int) < (((((countP l kn).1).map celR).length : Nat) : Int)))))] [([18], .smap []), ([16], .smap (mB im))] 4 (by kernel_rfl) ?_ ?_
        · exact trivial
        refine at_cond (b := (decide (((i0 : Nat) : Int) < (((((countP l kn).1).map celR).length : Nat) : Int)))) rfl rfl (fun hc36 => ?_) (fun hc36 => ?_)
        · have q36 := hc36
          (try simp only [List.length_map, Bool.and_eq_true, Bool.or_eq_true, Bool.not_eq_true', decide_eq_true_eq, decide_eq_false_iff_not, Bool.and_eq_false_iff, Bool.or_eq_false_iff, Bool.not_eq_false'] at q36)
          refine at_skip ?_
          change AT _ _ _ _
          refine at_seq ?_
          refine at_block ?_
          refine at_Bl [0, 1, 5, 6, 8, 9, 10] [.std, .std, .std, .eq (.tv (.ptr (celR (((countP l kn).1).getD i0 Ru.z)))), .std, .std, .eff (.tup []) (.smap (mB (mputB im (((countP l kn).1).getD i0 Ru.z).id true)))] [(0 ≤ ((i0 : Nat) : Int) ∧ ((i0 : Nat) : Int) < ((((((countP l kn).1).map celR) : List (List TV)).length : Nat) : Int)), (.tv (.ptr (rowAt (((countP l kn).1).map celR) ((i0 : Nat) : Int))) : AV) = .tv (.ptr (celR (((countP l kn).1).getD i0 Ru.z))), (.tup [] : AV) = .tup [], (.smap (sput (mB im) (((countP l kn).1).getD i0 Ru.z).id (.tv (.bool true))) : AO) = .smap (mB (mputB im (((countP l kn).1).getD i0 Ru.z).id true))] [(1000000, .any), (0, .tv (.sli 13 (l.map celR))), (1, .tv (.int .i64 kn)), (5, .tv (.bool headB)), (6, .tv (.sli 13 (((countP l kn).1).map celR))), (8, .map [16]), (9, .map [18]), (10, .tv (.int .i64 ((i0 : Nat) : Int)))] [([18], .smap []), ([16], .smap (mB (mputB im (((countP l kn).1).getD i0 Ru.z).id true)))] 11 (by kernel_rfl) ?_ ?_
          · exact ⟨by (try simp only [List.length_map, List.length_append, List.length_cons, List.length_nil, List.length_set] at *); omega, congrArg (fun c => AV.tv (.ptr c)) (row_R ((countP l kn).1) ((i0 : Nat) : Int) (by (try simp only [List.length_map, Bool.and_eq_true, Bool.or_eq_true, Bool.not_eq_true', decide_eq_true_eq, decide_eq_false_iff_not, Bool.and_eq_false_iff, Bool.or_eq_false_iff, Bool.not_eq_false', List.length_append, List.length_cons, List.length_nil, List.length_set] at *); omega)), rfl, congrArg AO.smap (mB_put _ _ _), trivial⟩
          change AT _ _ _ _
          refine at_Bl [0, 1, 5, 6, 8, 9, 10] [.std, .eq (.tv (.int .i64 ((i0 + 1 : Nat) : Int)))] [(.tv (.int .i64 (wr (((i0 : Nat) : Int) + 1))) : AV) = .tv (.int .i64 ((i0 + 1 : Nat) : Int))] [(1000000, .any), (0, .tv (.sli 13 (l.map celR))), (1, .tv (.int .i64 kn)), (5, .tv (.bool headB)), (6, .tv (.sli 13 (((countP l kn).1).map celR))), (8, .map [16]), (9, .map [18]), (10, .tv (.int .i64 ((i0 + 1 : Nat) : Int)))] [([18], .smap []), ([16], .smap (mB (mputB im (((countP l kn).1).getD i0 Ru.z).id true)))] 14 (by kernel_rfl) ?_ ?_
          · exact ⟨succ_av i0 (by (try simp only [List.length_map, List.length_append, List.length_cons, List.length_nil, List.length_set] at *); omega), trivial⟩
          refine ⟨rfl, (i0 + 1, (mputB im (((countP l kn).1).getD i0 Ru.z).id true)), ?_, ?_, ?_⟩
          · (try dsimp only); omega
          · (try dsimp only); exact ⟨by omega, (fold_step (f := idsS) Ru.z (by omega)).symm.trans hx2⟩
          · exact rn_ok [([18], [18]), ([16], [16])] [[16]] [0, 1, 5, 6, 8, 9, 10] (⟨clO_mB _, trivial⟩) (by kernel_rfl)
        · have q36 := hc36
          (try simp only [List.length_map, Bool.and_eq_true, Bool.or_eq_true, Bool.not_eq_true', decide_eq_true_eq, decide_eq_false_iff_not, Bool.and_eq_false_iff, Bool.or_eq_false_iff, Bool.not_eq_false'] at q36)
          have hsub : im = (idsM (countP l kn).1) := by rw [← hx2, List.drop_of_length_le (by omega)]; rfl
          subst hsub
          refine at_exit ?_
          change AT _ _ _ _
          refine at_B [0, 1, 5, 8, 9, 11] [] [] [(1000000, .any), (0, .tv (.sli 13 (l.map celR))), (1, .tv (.int .i64 kn)), (5, .tv (.bool headB)), (8, .map [16]), (9, .map [18]), (11, .tv (.bool false))] [([18], .smap []), ([16], .smap (mB (idsM (countP l kn).1)))] 23 (by kernel_rfl) ?_ ?_
          · exact trivial
          refine at_seq ?_
          refine at_B [0, 1, 5, 8, 9, 11, 12] [] [] [(1000000, .any), (0, .tv (.sli 13 (l.map celR))), (1, .tv (.int .i64 kn)), (5, .tv (.bool headB)), (8, .map [16]), (9, .map [18]), (11, .tv (.bool false)), (12, .tv (.int .i64 0))] [([18], .smap []), ([16], .smap (mB (idsM (countP l kn).1)))] 24 (by kernel_rfl) ?_ ?_
          · exact trivial
          refine at_block ?_
          refine at_loopR (X := Nat × Mb × Bool) 0 (fun ((i1, fm, lb) : Nat × Mb × Bool) => [(1000000, .any), (0, .tv (.sli 13 (l.map celR))), (1, .tv (.int .i64 kn)), (5, .tv (.bool headB)), (8, .map [16]), (9, .map [18]), (11, .tv (.bool lb)), (12, .tv (.int .i64 ((i1 : Nat) : Int)))]) (fun ((i1, fm, lb) : Nat × Mb × Bool) => [([18], .smap (mB fm)), ([16], .smap (mB (idsM (countP l kn).1)))]) (fun ((i1, fm, lb) : Nat × Mb × Bool) => i1 ≤ l.length ∧ (l.drop i1).foldl (finS kn) fm = finM l kn ∧ (lb || (l.drop i1).any isL) = l.any isL) (fun ((i1, fm, lb) : Nat × Mb × Bool) => l.length - i1) (0, [], false) ?_ ?_ ?_
          · exact ⟨Nat.zero_le _, rfl, rfl⟩
          · exact rn_ok [([18], [18]), ([16], [16])] [[16]] [0, 1, 5, 8, 9, 11, 12] (⟨clO_mB _, trivial⟩) (by kernel_rfl)
          · rintro ⟨i1, fm, lb⟩ hinv
            dsimp only at hinv ⊢
            obtain ⟨hy1, hy2, hy3⟩ := hinv
            refine at_seq ?_
            refine at_B [0, 1, 5, 8, 9, 11, 12, 48] [] [] [(1000000, .any), (0, .tv (.sli 13 (l.map celR))), (1, .tv (.int .i64 kn)), (5, .tv (.bool headB)), (8, .map [16]), (9, .map [18]), (11, .tv (.bool lb)), (12, .tv (.int .i64 ((i1 : Nat) : Int))), (48, .tv (.bool (decide (((i1 : Nat) : Int) < (((l.map celR).length : Nat) : Int)))))] [([18], .smap (mB fm)), ([16], .smap (mB (idsM (countP l kn).1)))] 4 (by kernel_rfl) ?_ ?_
            · exact trivial
            refine at_cond (b := (decide (((i1 : Nat) : Int) < (((l.map celR).length : Nat) : Int)))) rfl rfl (fun hc48 => ?_) (fun hc48 => ?_)
            · have q48 := hc48
              (try simp only [List.length_map, Bool.and_eq_true, Bool.or_eq_true, Bool.not_eq_true', decide_eq_true_eq, decide_eq_false_iff_not, Bool.and_eq_false_iff, Bool.or_eq_false_iff, Bool.not_eq_false'] at q48)
              refine at_skip ?_
              change AT _ _ _ _
              refine at_seq ?_
              refine at_block ?_
              refine at_D [0, 0, 0, 6, 14, 30, 0, 0, 192, 448, 960, 1984, 4032, 4032, 16320, 32704, 65472, 4032, 262080, 524224, 1048575] [0, 1, 5, 8, 9, 11, 12] [.std, .std, .std, .eq (.tv (.ptr (celR (l.getD i1 Ru.z)))), .std, .std, .std, .std, .eq (.tv (.ptr (celR (l.getD i1 Ru.z)))), .std, .std, .std, .std, .std, .eq (.tv (.ptr (celR (l.getD i1 Ru.z)))), .std, .std, .std, .std, .std, .eff (.tup []) (.smap (mB (mputB fm (l.getD i1 Ru.z).id ((l.getD i1 Ru.z).fin && (decide ((l.getD i1 Ru.z).kn ≤ kn))))))] [(0 ≤ ((i1 : Nat) : Int) ∧ ((i1 : Nat) : Int) < ((((l.map celR) : List (List TV)).length : Nat) : Int)), (.tv (.ptr (rowAt (l.map celR) ((i1 : Nat) : Int))) : AV) = .tv (.ptr (celR (l.getD i1 Ru.z))), (0 ≤ ((i1 : Nat) : Int) ∧ ((i1 : Nat) : Int) < ((((l.map celR) : List (List TV)).length : Nat) : Int)), (.tv (.ptr (rowAt (l.map celR) ((i1 : Nat) : Int))) : AV) = .tv (.ptr (celR (l.getD i1 Ru.z))), ((l.getD i1 Ru.z).fin = true) → (0 ≤ ((i1 : Nat) : Int) ∧ ((i1 : Nat) : Int) < ((((l.map celR) : List (List TV)).length : Nat) : Int)), ((l.getD i1 Ru.z).fin = true) → (.tv (.ptr (rowAt (l.map celR) ((i1 : Nat) : Int))) : AV) = .tv (.ptr (celR (l.getD i1 Ru.z))), (.tup [] : AV) = .tup [], (.smap (sput (mB fm) (l.getD i1 Ru.z).id (.tv (.bool ((l.getD i1 Ru.z).fin && (decide ((l.getD i1 Ru.z).kn ≤ kn)))))) : AO) = .smap (mB (mputB fm (l.getD i1 Ru.z).id ((l.getD i1 Ru.z).fin && (decide ((l.getD i1 Ru.z).kn ≤ kn)))))] [(1000000, .any), (0, .tv (.sli 13 (l.map celR))), (1, .tv (.int .i64 kn)), (5, .tv (.bool headB)), (8, .map [16]), (9, .map [18]), (11, .tv (.bool lb)), (12, .tv (.int .i64 ((i1 : Nat) : Int)))] [([18], .smap (mB (mputB fm (l.getD i1 Ru.z).id ((l.getD i1 Ru.z).fin && (decide ((l.getD i1 Ru.z).kn ≤ kn)))))), ([16], .smap (mB (idsM (countP l kn).1)))] 25 (by kernel_rfl) ?_ ?_
              · exact ⟨by (try simp only [List.length_map, List.length_append, List.length_cons, List.length_nil, List.length_set] at *); omega, congrArg (fun c => AV.tv (.ptr c)) (row_R l ((i1 : Nat) : Int) (by (try simp only [List.length_map, Bool.and_eq_true, Bool.or_eq_true, Bool.not_eq_true', decide_eq_true_eq, decide_eq_false_iff_not, Bool.and_eq_false_iff, Bool.or_eq_false_iff, Bool.not_eq_false', List.length_append, List.length_cons, List.length_nil, List.length_set] at *); omega)), by (try simp only [List.length_map, List.length_append, List.length_cons, List.length_nil, List.length_set] at *); omega, congrArg (fun c => AV.tv (.ptr c)) (row_R l ((i1 : Nat) : Int) (by (try simp only [List.length_map, Bool.and_eq_true, Bool.or_eq_true, Bool.not_eq_true', decide_eq_true_eq, decide_eq_false_iff_not, Bool.and_eq_false_iff, Bool.or_eq_false_iff, Bool.not_eq_false', List.length_append, List.length_cons, List.length_nil, List.length_set] at *); omega)), fun hg0 => by (try simp only [List.length_map, Bool.and_eq_true, Bool.or_eq_true, Bool.not_eq_true', decide_eq_true_eq, decide_eq_false_iff_not, Bool.and_eq_false_iff, Bool.or_eq_false_iff, Bool.not_eq_false', List.length_append, List.length_cons, List.length_nil, List.length_set] at *); omega, fun hg0 => congrArg (fun c => AV.tv (.ptr c)) (row_R l ((i1 : Nat) : Int) (by (try simp only [List.length_map, Bool.and_eq_true, Bool.or_eq_true, Bool.not_eq_true', decide_eq_true_eq, decide_eq_false_iff_not, Bool.and_eq_false_iff, Bool.or_eq_false_iff, Bool.not_eq_false', List.length_append, List.length_cons, List.length_nil, List.length_set] at *); omega)), rfl, congrArg AO.smap (mB_put _ _ _), trivial⟩
              refine at_Bl [0, 1, 5, 8, 9, 11, 12] [.std, .std, .std, .std, .eq (.tv (.ptr (celR (l.getD i1 Ru.z))))] [(lb = false) → (0 ≤ ((i1 : Nat) : Int) ∧ ((i1 : Nat) : Int) < ((((l.map celR) : List (List TV)).length : Nat) : Int)), (lb = false) → (.tv (.ptr (rowAt (l.map celR) ((i1 : Nat) : Int))) : AV) = .tv (.ptr (celR (l.getD i1 Ru.z)))] [(1000000, .any), (0, .tv (.sli 13 (l.map celR))), (1, .tv (.int .i64 kn)), (5, .tv (.bool headB)), (8, .map [16]), (9, .map [18]), (11, .tv (.bool (lb || (decide ((l.getD i1 Ru.z).kd = (6 : Int)))))), (12, .tv (.int .i64 ((i1 : Nat) : Int)))] [([18], .smap (mB (mputB fm (l.getD i1 Ru.z).id ((l.getD i1 Ru.z).fin && (decide ((l.getD i1 Ru.z).kn ≤ kn)))))), ([16], .smap (mB (idsM (countP l kn).1)))] 35 (by kernel_rfl) ?_ ?_
              · exact ⟨fun hg0 => by (try simp only [List.length_map, Bool.and_eq_true, Bool.or_eq_true, Bool.not_eq_true', decide_eq_true_eq, decide_eq_false_iff_not, Bool.and_eq_false_iff, Bool.or_eq_false_iff, Bool.not_eq_false', List.length_append, List.length_cons, List.length_nil, List.length_set] at *); omega, fun hg0 => congrArg (fun c => AV.tv (.ptr c)) (row_R l ((i1 : Nat) : Int) (by (try simp only [List.length_map, Bool.and_eq_true, Bool.or_eq_true, Bool.not_eq_true', decide_eq_true_eq, decide_eq_false_iff_not, Bool.and_eq_false_iff, Bool.or_eq_false_iff, Bool.not_eq_false', List.length_append, List.length_cons, List.length_nil, List.length_set] at *); omega)), trivial⟩
              change AT _ _ _ _
              refine at_Bl [0, 1, 5, 8, 9, 11, 12] [.std, .eq (.tv (.int .i64 ((i1 + 1 : Nat) : Int)))] [(.tv (.int .i64 (wr (((i1 : Nat) : Int) + 1))) : AV) = .tv (.int .i64 ((i1 + 1 : Nat) : Int))] [(1000000, .any), (0, .tv (.sli 13 (l.map celR))), (1, .tv (.int .i64 kn)), (5, .tv (.bool headB)), (8, .map [16]), (9, .map [18]), (11, .tv (.bool (lb || (decide ((l.getD i1 Ru.z).kd = (6 : Int)))))), (12, .tv (.int .i64 ((i1 + 1 : Nat) : Int)))] [([18], .smap (mB (mputB fm (l.getD i1 Ru.z).id ((l.getD i1 Ru.z).fin && (decide ((l.getD i1 Ru.z).kn ≤ kn)))))), ([16], .smap (mB (idsM (countP l kn).1)))] 38 (by kernel_rfl) ?_ ?_
              · exact ⟨succ_av i1 (by (try simp only [List.length_map, List.length_append, List.length_cons, List.length_nil, List.length_set] at *); omega), trivial⟩
              refine ⟨rfl, (i1 + 1, (mputB fm (l.getD i1 Ru.z).id ((l.getD i1 Ru.z).fin && (decide ((l.getD i1 Ru.z).kn ≤ kn)))), (lb || (decide ((l.getD i1 Ru.z).kd = (6 : Int))))), ?_, ?_, ?_⟩
              · (try dsimp only); omega
              · (try dsimp only); exact ⟨by omega, (fold_step (f := finS kn) Ru.z (by omega)).symm.trans hy2, by rw [← hy3, drop_get l i1 Ru.z (by omega), List.any_cons, ← Bool.or_assoc]; rfl⟩
              · exact rn_ok [([18], [18]), ([16], [16])] [[18], [16]] [0, 1, 5, 8, 9, 11, 12] (⟨clO_mB _, clO_mB _, trivial⟩) (by kernel_rfl)
            · have q48 := hc48
              (try simp only [List.length_map, Bool.and_eq_true, Bool.or_eq_true, Bool.not_eq_true', decide_eq_true_eq, decide_eq_false_iff_not, Bool.and_eq_false_iff, Bool.or_eq_false_iff, Bool.not_eq_false'] at q48)
              have hsub : fm = (finM l kn) := by rw [← hy2, List.drop_of_length_le (by omega)]; rfl
              subst hsub
              have hsub : lb = (l.any isL) := by rw [← hy3, List.drop_of_length_le (by omega), List.any_nil, Bool.or_false]
              subst hsub
              refine at_exit ?_
              change AT _ _ _ _
              refine at_seq ?_
              refine at_B [0, 1, 5, 8, 9, 11, 13] [] [] [(1000000, .any), (0, .tv (.sli 13 (l.map celR))), (1, .tv (.int .i64 kn)), (5, .tv (.bool headB)), (8, .map [16]), (9, .map [18]), (11, .tv (.bool (l.any isL))), (13, .tv (.int .i64 0))] [([18], .smap (mB (finM l kn))), ([16], .smap (mB (idsM (countP l kn).1)))] 26 (by kernel_rfl) ?_ ?_
              · exact trivial
              refine at_block ?_
              refine at_loopR (X := Nat) 0 (fun (i : Nat) => [(1000000, .any), (0, .tv (.sli 13 (l.map celR))), (1, .tv (.int .i64 kn)), (5, .tv (.bool headB)), (8, .map [16]), (9, .map [18]), (11, .tv (.bool (l.any isL))), (13, .tv (.int .i64 ((i : Nat) : Int)))]) (fun (i : Nat) => [([18], .smap (mB (finM l kn))), ([16], .smap (mB (idsM (countP l kn).1)))]) (fun (i : Nat) => i ≤ l.length) (fun (i : Nat) => l.length - i) 0 ?_ ?_ ?_
              · exact Nat.zero_le _
              · exact rn_ok [([18], [18]), ([16], [16])] [[18], [16]] [0, 1, 5, 8, 9, 11, 13] (⟨clO_mB _, clO_mB _, trivial⟩) (by kernel_rfl)
              · intro i hinv
                refine at_seq ?_
                refine at_B [0, 1, 5, 8, 9, 11, 13, 83] [] [] [(1000000, .any), (0, .tv (.sli 13 (l.map celR))), (1, .tv (.int .i64 kn)), (5, .tv (.bool headB)), (8, .map [16]), (9, .map [18]), (11, .tv (.bool (l.any isL))), (13, .tv (.int .i64 ((i : Nat) : Int))), (83, .tv (.bool (decide (((i : Nat) : Int) < (((l.map celR).length : Nat) : Int)))))] [([18], .smap (mB (finM l kn))), ([16], .smap (mB (idsM (countP l kn).1)))] 4 (by kernel_rfl) ?_ ?_
                · exact trivial
                refine at_cond (b := (decide (((i : Nat) : Int) < (((l.map celR).length : Nat) : Int)))) rfl rfl (fun hc83 => ?_) (fun hc83 => ?_)
                · have q83 := hc83
                  (try simp only [List.length_map, Bool.and_eq_true, Bool.or_eq_true, Bool.not_eq_true', decide_eq_true_eq, decide_eq_false_iff_not, Bool.and_eq_false_iff, Bool.or_eq_false_iff, Bool.not_eq_false'] at q83)
                  refine at_skip ?_
                  change AT _ _ _ _
                  refine at_seq ?_
                  refine at_block ?_
                  refine at_B [0, 1, 5, 8, 9, 11, 13, 14] [.std, .std, .eq (.tv (.ptr (celR (l.getD i Ru.z))))] [(0 ≤ ((i : Nat) : Int) ∧ ((i : Nat) : Int) < ((((l.map celR) : List (List TV)).length : Nat) : Int)), (.tv (.ptr (rowAt (l.map celR) ((i : Nat) : Int))) : AV) = .tv (.ptr (celR (l.getD i Ru.z)))] [(1000000, .any), (0, .tv (.sli 13 (l.map celR))), (1, .tv (.int .i64 kn)), (5, .tv (.bool headB)), (8, .map [16]), (9, .map [18]), (11, .tv (.bool (l.any isL))), (13, .tv (.int .i64 ((i : Nat) : Int))), (14, .ptr [8, 26] 0)] [([8, 26], .row ((celR (l.getD i Ru.z)).map .tv) false), ([18], .smap (mB (finM l kn))), ([16], .smap (mB (idsM (countP l kn).1)))] 10 (by kernel_rfl) ?_ ?_
                  · exact ⟨by (try simp only [List.length_map, List.length_append, List.length_cons, List.length_nil, List.length_set] at *); omega, congrArg (fun c => AV.tv (.ptr c)) (row_R l ((i : Nat) : Int) (by (try simp only [List.length_map, Bool.and_eq_true, Bool.or_eq_true, Bool.not_eq_true', decide_eq_true_eq, decide_eq_false_iff_not, Bool.and_eq_false_iff, Bool.or_eq_false_iff, Bool.not_eq_false', List.length_append, List.length_cons, List.length_nil, List.length_set] at *); omega)), trivial⟩
                  refine at_B [0, 1, 5, 8, 9, 11, 13, 14, 15] [.std, .std, .std, .std, .std, .std, .std, .eq (.tv (.bool (mgetB (finM l kn) (l.getD i Ru.z).lf)))] [((decide ((l.getD i Ru.z).kd = (6 : Int))) = true) → ((sget (mB (finM l kn)) (l.getD i Ru.z).lf).getD (.tv (.bool false)) : AV) = .tv (.bool (mgetB (finM l kn) (l.getD i Ru.z).lf))] [(1000000, .any), (0, .tv (.sli 13 (l.map celR))), (1, .tv (.int .i64 kn)), (5, .tv (.bool headB)), (8, .map [16]), (9, .map [18]), (11, .tv (.bool (l.any isL))), (13, .tv (.int .i64 ((i : Nat) : Int))), (14, .ptr [8, 26] 0), (15, .tv (.bool ((decide ((l.getD i Ru.z).kd = (6 : Int))) && (mgetB (finM l kn) (l.getD i Ru.z).lf))))] [([8, 26], .row ((celR (l.getD i Ru.z)).map .tv) false), ([18], .smap (mB (finM l kn))), ([16], .smap (mB (idsM (countP l kn).1)))] 20 (by kernel_rfl) ?_ ?_
                  · exact ⟨fun hg0 => mB_get (finM l kn) (l.getD i Ru.z).lf, trivial⟩
                  refine at_seq ?_
                  refine at_B [0, 1, 5, 8, 9, 11, 13, 14, 139] [.std, .std, .std, .std, .std, .std, .eq (.tv (.bool (mgetB (idsM (countP l kn).1) (l.getD i Ru.z).id))), .std, .std, .std, .std, .std, .std, .std, .std, .std, .std, .std, .std, .std, .std, .std, .std, .eq (.tv (.bool (mgetB (idsM (countP l kn).1) (l.getD i Ru.z).id))), .std, .std, .std, .std, .std, .std, .std, .std, .std, .eq (.tv (.bool (mgetB (idsM (countP l kn).1) (l.getD i Ru.z).id)))] [((l.getD i Ru.z).fin = true) → ((sget (mB (idsM (countP l kn).1)) (l.getD i Ru.z).id).getD (.tv (.bool false)) : AV) = .tv (.bool (mgetB (idsM (countP l kn).1) (l.getD i Ru.z).id)), (((decide ((l.getD i Ru.z).kd = (6 : Int))) && (mgetB (finM l kn) (l.getD i Ru.z).lf)) = true) → (((l.getD i Ru.z).fin && (!((mgetB (idsM (countP l kn).1) (l.getD i Ru.z).id) == ((decide ((l.getD i Ru.z).kn ≤ kn)) && (!((decide ((l.getD i Ru.z).kd = (6 : Int))) && (mgetB (finM l kn) (l.getD i Ru.z).lf))))))) = false) → ((sget (mB (idsM (countP l kn).1)) (l.getD i Ru.z).id).getD (.tv (.bool false)) : AV) = .tv (.bool (mgetB (idsM (countP l kn).1) (l.getD i Ru.z).id)), ((!(l.any isL)) = true) → ((((l.getD i Ru.z).fin && (!((mgetB (idsM (countP l kn).1) (l.getD i Ru.z).id) == ((decide ((l.getD i Ru.z).kn ≤ kn)) && (!((decide ((l.getD i Ru.z).kd = (6 : Int))) && (mgetB (finM l kn) (l.getD i Ru.z).lf))))))) || (((decide ((l.getD i Ru.z).kd = (6 : Int))) && (mgetB (finM l kn) (l.getD i Ru.z).lf)) && (mgetB (idsM (countP l kn).1) (l.getD i Ru.z).id))) = false) → ((sget (mB (idsM (countP l kn).1)) (l.getD i Ru.z).id).getD (.tv (.bool false)) : AV) = .tv (.bool (mgetB (idsM (countP l kn).1) (l.getD i Ru.z).id))] [(1000000, .any), (0, .tv (.sli 13 (l.map celR))), (1, .tv (.int .i64 kn)), (5, .tv (.bool headB)), (8, .map [16]), (9, .map [18]), (11, .tv (.bool (l.any isL))), (13, .tv (.int .i64 ((i : Nat) : Int))), (14, .ptr [8, 26] 0), (139, .tv (.bool ((((l.getD i Ru.z).fin && (!((mgetB (idsM (countP l kn).1) (l.getD i Ru.z).id) == ((decide ((l.getD i Ru.z).kn ≤ kn)) && (!((decide ((l.getD i Ru.z).kd = (6 : Int))) && (mgetB (finM l kn) (l.getD i Ru.z).lf))))))) || (((decide ((l.getD i Ru.z).kd = (6 : Int))) && (mgetB (finM l kn) (l.getD i Ru.z).lf)) && (mgetB (idsM (countP l kn).1) (l.getD i Ru.z).id))) || ((!(l.any isL)) && (!((mgetB (idsM (countP l kn).1) (l.getD i Ru.z).id) == (decide ((l.getD i Ru.z).kn ≤ kn))))))))] [([8, 26], .row ((celR (l.getD i Ru.z)).map .tv) false), ([18], .smap (mB (finM l kn))), ([16], .smap (mB (idsM (countP l kn).1)))] 61 (by kernel_rfl) ?_ ?_
                  · exact ⟨fun hg0 => mB_get (idsM (countP l kn).1) (l.getD i Ru.z).id, fun hg0 hg1 => mB_get (idsM (countP l kn).1) (l.getD i Ru.z).id, fun hg0 hg1 => mB_get (idsM (countP l kn).1) (l.getD i Ru.z).id, trivial⟩
                  refine at_cond (b := ((((l.getD i Ru.z).fin && (!((mgetB (idsM (countP l kn).1) (l.getD i Ru.z).id) == ((decide ((l.getD i Ru.z).kn ≤ kn)) && (!((decide ((l.getD i Ru.z).kd = (6 : Int))) && (mgetB (finM l kn) (l.getD i Ru.z).lf))))))) || (((decide ((l.getD i Ru.z).kd = (6 : Int))) && (mgetB (finM l kn) (l.getD i Ru.z).lf)) && (mgetB (idsM (countP l kn).1) (l.getD i Ru.z).id))) || ((!(l.any isL)) && (!((mgetB (idsM (countP l kn).1) (l.getD i Ru.z).id) == (decide ((l.getD i Ru.z).kn ≤ kn))))))) rfl rfl (fun hc139 => ?_) (fun hc139 => ?_)
                  · have q139 := hc139
                    (try simp only [List.length_map, Bool.and_eq_true, Bool.or_eq_true, Bool.not_eq_true', decide_eq_true_eq, decide_eq_false_iff_not, Bool.and_eq_false_iff, Bool.or_eq_false_iff, Bool.not_eq_false'] at q139)
                    exfalso
                    obtain ⟨g1, g2, g3⟩ := law7_a he (i := i) (by omega) rfl rfl rfl
                    exact absurd (hc139.symm.trans (law7_no g1 g2 g3)) (by decide)
                  · have q139 := hc139
                    (try simp only [List.length_map, Bool.and_eq_true, Bool.or_eq_true, Bool.not_eq_true', decide_eq_true_eq, decide_eq_false_iff_not, Bool.and_eq_false_iff, Bool.or_eq_false_iff, Bool.not_eq_false'] at q139)
                    refine at_skip ?_
                    change AT _ _ _ _
                    refine at_B [0, 1, 5, 8, 9, 11, 13, 14, 16] [] [] [(1000000, .any), (0, .tv (.sli 13 (l.map celR))), (1, .tv (.int .i64 kn)), (5, .tv (.bool headB)), (8, .map [16]), (9, .map [18]), (11, .tv (.bool (l.any isL))), (13, .tv (.int .i64 ((i : Nat) : Int))), (14, .ptr [8, 26] 0), (16, .tv (.int .i64 0))] [([8, 26], .row ((celR (l.getD i Ru.z)).map .tv) false), ([18], .smap (mB (finM l kn))), ([16], .smap (mB (idsM (countP l kn).1)))] 62 (by kernel_rfl) ?_ ?_
                    · exact trivial
                    refine at_block ?_
                    refine at_loopR (X := Nat) 0 (fun (k : Nat) => [(1000000, .any), (0, .tv (.sli 13 (l.map celR))), (1, .tv (.int .i64 kn)), (5, .tv (.bool headB)), (8, .map [16]), (9, .map [18]), (11, .tv (.bool (l.any isL))), (13, .tv (.int .i64 ((i : Nat) : Int))), (14, .ptr [8, 26] 0), (16, .tv (.int .i64 ((k : Nat) : Int)))]) (fun (k : Nat) => [([8, 26], .row ((celR (l.getD i Ru.z)).map .tv) false), ([18], .smap (mB (finM l kn))), ([16], .smap (mB (idsM (countP l kn).1)))]) (fun (k : Nat) => k ≤ i) (fun (k : Nat) => i - k) 0 ?_ ?_ ?_
                    · exact Nat.zero_le _
                    · exact rn_ok [([8, 26], [8, 26]), ([18], [18]), ([16], [16])] [[18], [16]] [0, 1, 5, 8, 9, 11, 13, 14, 16] (⟨clO_mB _, clO_mB _, trivial⟩) (by kernel_rfl)
                    · intro k hinv
                      have hki : k ≤ i := hinv
                      refine at_seq ?_
                      refine at_B [0, 1, 5, 8, 9, 11, 13, 14, 16, 142] [] [] [(1000000, .any), (0, .tv (.sli 13 (l.map celR))), (1, .tv (.int .i64 kn)), (5, .tv (.bool headB)), (8, .map [16]), (9, .map [18]), (11, .tv (.bool (l.any isL))), (13, .tv (.int .i64 ((i : Nat) : Int))), (14, .ptr [8, 26] 0), (16, .tv (.int .i64 ((k : Nat) : Int))), (142, .tv (.bool (decide (((k : Nat) : Int) < ((i : Nat) : Int)))))] [([8, 26], .row ((celR (l.getD i Ru.z)).map .tv) false), ([18], .smap (mB (finM l kn))), ([16], .smap (mB (idsM (countP l kn).1)))] 3 (by kernel_rfl) ?_ ?_
                      · exact trivial
                      refine at_cond (b := (decide (((k : Nat) : Int) < ((i : Nat) : Int)))) rfl rfl (fun hc142 => ?_) (fun hc142 => ?_)
                      · have q142 := hc142
                        (try simp only [List.length_map, Bool.and_eq_true, Bool.or_eq_true, Bool.not_eq_true', decide_eq_true_eq, decide_eq_false_iff_not, Bool.and_eq_false_iff, Bool.or_eq_false_iff, Bool.not_eq_false'] at q142)
                        refine at_skip ?_
                        change AT _ _ _ _
                        refine at_seq ?_
                        refine at_block ?_
                        refine at_D [0, 1, 3, 7, 15, 15, 47, 127, 255, 511, 1023, 1023, 4095, 8191, 16383, 1023, 33791, 131071, 262143, 524287, 1048575, 1048575, 1048575, 7340031, 15728639, 32505855, 67108863, 134217727] [0, 1, 5, 8, 9, 11, 13, 14, 16, 172] [.std, .std, .std, .std, .std, .std, .std, .eq (.tv (.bool (mgetB (idsM (countP l kn).1) (l.getD i Ru.z).id))), .std, .std, .std, .std, .eq (.tv (.ptr (celR (l.getD k Ru.z)))), .std, .std, .std, .std, .std, .std, .std, .std, .std, .std, .eq (.tv (.ptr (celR (l.getD k Ru.z)))), .std, .std, .eq (.tv (.bool (mgetB (idsM (countP l kn).1) (l.getD k Ru.z).id)))] [((decide ((l.getD i Ru.z).kd = (6 : Int))) = true) → ((sget (mB (idsM (countP l kn).1)) (l.getD i Ru.z).id).getD (.tv (.bool false)) : AV) = .tv (.bool (mgetB (idsM (countP l kn).1) (l.getD i Ru.z).id)), (((decide ((l.getD i Ru.z).kd = (6 : Int))) && (mgetB (idsM (countP l kn).1) (l.getD i Ru.z).id)) = true) → (0 ≤ ((k : Nat) : Int) ∧ ((k : Nat) : Int) < ((((l.map celR) : List (List TV)).length : Nat) : Int)), (((decide ((l.getD i Ru.z).kd = (6 : Int))) && (mgetB (idsM (countP l kn).1) (l.getD i Ru.z).id)) = true) → (.tv (.ptr (rowAt (l.map celR) ((k : Nat) : Int))) : AV) = .tv (.ptr (celR (l.getD k Ru.z))), ((((decide ((l.getD i Ru.z).kd = (6 : Int))) && (mgetB (idsM (countP l kn).1) (l.getD i Ru.z).id)) && (decide ((l.getD k Ru.z).id = (l.getD i Ru.z).lf))) = true) → (0 ≤ ((k : Nat) : Int) ∧ ((k : Nat) : Int) < ((((l.map celR) : List (List TV)).length : Nat) : Int)), ((((decide ((l.getD i Ru.z).kd = (6 : Int))) && (mgetB (idsM (countP l kn).1) (l.getD i Ru.z).id)) && (decide ((l.getD k Ru.z).id = (l.getD i Ru.z).lf))) = true) → (.tv (.ptr (rowAt (l.map celR) ((k : Nat) : Int))) : AV) = .tv (.ptr (celR (l.getD k Ru.z))), ((((decide ((l.getD i Ru.z).kd = (6 : Int))) && (mgetB (idsM (countP l kn).1) (l.getD i Ru.z).id)) && (decide ((l.getD k Ru.z).id = (l.getD i Ru.z).lf))) = true) → ((sget (mB (idsM (countP l kn).1)) (l.getD k Ru.z).id).getD (.tv (.bool false)) : AV) = .tv (.bool (mgetB (idsM (countP l kn).1) (l.getD k Ru.z).id))] [(1000000, .any), (0, .tv (.sli 13 (l.map celR))), (1, .tv (.int .i64 kn)), (5, .tv (.bool headB)), (8, .map [16]), (9, .map [18]), (11, .tv (.bool (l.any isL))), (13, .tv (.int .i64 ((i : Nat) : Int))), (14, .ptr [8, 26] 0), (16, .tv (.int .i64 ((k : Nat) : Int))), (172, .tv (.bool ((((decide ((l.getD i Ru.z).kd = (6 : Int))) && (mgetB (idsM (countP l kn).1) (l.getD i Ru.z).id)) && (decide ((l.getD k Ru.z).id = (l.getD i Ru.z).lf))) && (mgetB (idsM (countP l kn).1) (l.getD k Ru.z).id))))] [([8, 26], .row ((celR (l.getD i Ru.z)).map .tv) false), ([18], .smap (mB (finM l kn))), ([16], .smap (mB (idsM (countP l kn).1)))] 31 (by kernel_rfl) ?_ ?_
                        · exact ⟨fun hg0 => mB_get (idsM (countP l kn).1) (l.getD i Ru.z).id, fun hg0 => by (try simp only [List.length_map, Bool.and_eq_true, Bool.or_eq_true, Bool.not_eq_true', decide_eq_true_eq, decide_eq_false_iff_not, Bool.and_eq_false_iff, Bool.or_eq_false_iff, Bool.not_eq_false', List.length_append, List.length_cons, List.length_nil, List.length_set] at *); omega, fun hg0 => congrArg (fun c => AV.tv (.ptr c)) (row_R l ((k : Nat) : Int) (by (try simp only [List.length_map, Bool.and_eq_true, Bool.or_eq_true, Bool.not_eq_true', decide_eq_true_eq, decide_eq_false_iff_not, Bool.and_eq_false_iff, Bool.or_eq_false_iff, Bool.not_eq_false', List.length_append, List.length_cons, List.length_nil, List.length_set] at *); omega)), fun hg0 => by (try simp only [List.length_map, Bool.and_eq_true, Bool.or_eq_true, Bool.not_eq_true', decide_eq_true_eq, decide_eq_false_iff_not, Bool.and_eq_false_iff, Bool.or_eq_false_iff, Bool.not_eq_false', List.length_append, List.length_cons, List.length_nil, List.length_set] at *); omega, fun hg0 => congrArg (fun c => AV.tv (.ptr c)) (row_R l ((k : Nat) : Int) (by (try simp only [List.length_map, Bool.and_eq_true, Bool.or_eq_true, Bool.not_eq_true', decide_eq_true_eq, decide_eq_false_iff_not, Bool.and_eq_false_iff, Bool.or_eq_false_iff, Bool.not_eq_false', List.length_append, List.length_cons, List.length_nil, List.length_set] at *); omega)), fun hg0 => mB_get (idsM (countP l kn).1) (l.getD k Ru.z).id, trivial⟩
                        refine at_cond (b := ((((decide ((l.getD i Ru.z).kd = (6 : Int))) && (mgetB (idsM (countP l kn).1) (l.getD i Ru.z).id)) && (decide ((l.getD k Ru.z).id = (l.getD i Ru.z).lf))) && (mgetB (idsM (countP l kn).1) (l.getD k Ru.z).id))) rfl rfl (fun hc172 => ?_) (fun hc172 => ?_)
                        · have q172 := hc172
                          (try simp only [List.length_map, Bool.and_eq_true, Bool.or_eq_true, Bool.not_eq_true', decide_eq_true_eq, decide_eq_false_iff_not, Bool.and_eq_false_iff, Bool.or_eq_false_iff, Bool.not_eq_false'] at q172)
                          exfalso
                          have := law7_b he (i := i) (k := k) (by omega) (by omega) q172.1.1.1 q172.1.1.2 q172.1.2
                          rw [this] at q172
                          exact absurd q172.2 (by decide)
                        · have q172 := hc172
                          (try simp only [List.length_map, Bool.and_eq_true, Bool.or_eq_true, Bool.not_eq_true', decide_eq_true_eq, decide_eq_false_iff_not, Bool.and_eq_false_iff, Bool.or_eq_false_iff, Bool.not_eq_false'] at q172)
                          refine at_skip ?_
                          change AT _ _ _ _
                          refine at_Bl [0, 1, 5, 8, 9, 11, 13, 14, 16] [.std, .eq (.tv (.int .i64 ((k + 1 : Nat) : Int)))] [(.tv (.int .i64 (wr (((k : Nat) : Int) + 1))) : AV) = .tv (.int .i64 ((k + 1 : Nat) : Int))] [(1000000, .any), (0, .tv (.sli 13 (l.map celR))), (1, .tv (.int .i64 kn)), (5, .tv (.bool headB)), (8, .map [16]), (9, .map [18]), (11, .tv (.bool (l.any isL))), (13, .tv (.int .i64 ((i : Nat) : Int))), (14, .ptr [8, 26] 0), (16, .tv (.int .i64 ((k + 1 : Nat) : Int)))] [([8, 26], .row ((celR (l.getD i Ru.z)).map .tv) false), ([18], .smap (mB (finM l kn))), ([16], .smap (mB (idsM (countP l kn).1)))] 34 (by kernel_rfl) ?_ ?_
                          · exact ⟨succ_av k (by (try simp only [List.length_map, List.length_append, List.length_cons, List.length_nil, List.length_set] at *); omega), trivial⟩
                          refine ⟨rfl, (k + 1), ?_, ?_, ?_⟩
                          · (try dsimp only); omega
                          · omega
                          · exact rn_ok [([8, 26], [8, 26]), ([18], [18]), ([16], [16])] [[18], [16]] [0, 1, 5, 8, 9, 11, 13, 14, 16] (⟨clO_mB _, clO_mB _, trivial⟩) (by kernel_rfl)
                      · have q142 := hc142
                        (try simp only [List.length_map, Bool.and_eq_true, Bool.or_eq_true, Bool.not_eq_true', decide_eq_true_eq, decide_eq_false_iff_not, Bool.and_eq_false_iff, Bool.or_eq_false_iff, Bool.not_eq_false'] at q142)
                        refine at_exit ?_
                        change AT _ _ _ _
                        refine at_Bl [0, 1, 5, 8, 9, 11, 13] [.std, .eq (.tv (.int .i64 ((i + 1 : Nat) : Int)))] [(.tv (.int .i64 (wr (((i : Nat) : Int) + 1))) : AV) = .tv (.int .i64 ((i + 1 : Nat) : Int))] [(1000000, .any), (0, .tv (.sli 13 (l.map celR))), (1, .tv (.int .i64 kn)), (5, .tv (.bool headB)), (8, .map [16]), (9, .map [18]), (11, .tv (.bool (l.any isL))), (13, .tv (.int .i64 ((i + 1 : Nat) : Int)))] [([8, 26], .row ((celR (l.getD i Ru.z)).map .tv) false), ([18], .smap (mB (finM l kn))), ([16], .smap (mB (idsM (countP l kn).1)))] 66 (by kernel_rfl) ?_ ?_
                        · exact ⟨succ_av i (by (try simp only [List.length_map, List.length_append, List.length_cons, List.length_nil, List.length_set] at *); omega), trivial⟩
                        refine ⟨rfl, (i + 1), ?_, ?_, ?_⟩
                        · (try dsimp only); omega
                        · omega
                        · exact rn_ok [([18], [18]), ([16], [16])] [[18], [16]] [0, 1, 5, 8, 9, 11, 13] (⟨clO_mB _, clO_mB _, trivial⟩) (by kernel_rfl)
                · have q83 := hc83
                  (try simp only [List.length_map, Bool.and_eq_true, Bool.or_eq_true, Bool.not_eq_true', decide_eq_true_eq, decide_eq_false_iff_not, Bool.and_eq_false_iff, Bool.or_eq_false_iff, Bool.not_eq_false'] at q83)
                  refine at_exit ?_
                  change AT _ _ _ _
                  refine at_B [4] [] [] [(1000000, .any), (4, .tv (.bool headB))] [([18], .smap (mB (finM l kn))), ([16], .smap (mB (idsM (countP l kn).1)))] 29 (by kernel_rfl) ?_ ?_
                  · exact trivial
                  refine at_ret ?_
                  refine fin0 (.inr rfl) (.tv (.bool headB)) [([18], .smap (mB (finM l kn))), ([16], .smap (mB (idsM (countP l kn).1)))] (.tv (.bool headB)) (H2 := [([18], .smap (mB (finM l kn))), ([16], .smap (mB (idsM (countP l kn).1)))]) (by kernel_rfl) (by kernel_rfl) ?_
                  refine Le.of_eq ?_
                  rw [head_true]
end Go.Proofs.Ythmimpiegnnmdaa
