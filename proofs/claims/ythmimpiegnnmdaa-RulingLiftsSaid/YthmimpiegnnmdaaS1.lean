/- Walks of the small functions. -/
import Derived.Test.YthmimpiegnnmdaaFun1
namespace Go.Proofs.Ythmimpiegnnmdaa
open Go.RowKit
set_option maxRecDepth 10000
set_option linter.unusedSimpArgs false
set_option linter.unusedVariables false

theorem c55 (c : Int)  : PureCall Try.prog 55 [.tv (.int .u8 c)] (.tv (.bool (digitC c))) := by
  refine walk0 (fn := Try.f55) [.tmp 2] Try.func55 rfl (by kernel_rfl) rfl (by kernel_rfl) (by kernel_rfl) ?_
  change AT _ _ _ ⟨[(0, .tv (.int .u8 c))], [], [], 0⟩
  refine at_B [0] [] [] [(1000000, .any), (0, .tv (.int .u8 c))] [] 1 (by kernel_rfl) ?_ ?_
  · exact trivial
  refine at_B [2] [] [] [(1000000, .any), (2, .tv (.bool ((decide ((48 : Int) ≤ c)) && (decide (c ≤ (57 : Int))))))] [] 8 (by kernel_rfl) ?_ ?_
  · exact trivial
  refine at_ret ?_
  refine fin0 (.inr rfl) (.tv (.bool ((decide ((48 : Int) ≤ c)) && (decide (c ≤ (57 : Int)))))) [] (.tv (.bool ((decide ((48 : Int) ≤ c)) && (decide (c ≤ (57 : Int)))))) (H2 := []) (by kernel_rfl) (by kernel_rfl) ?_
  refine Le.of_eq ?_
  first | rfl | (simp only [*])
theorem c52 (c : Int)  : PureCall Try.prog 52 [.tv (.int .u8 c)] (.tv (.bool (letterC c))) := by
  refine walk0 (fn := Try.f52) [.tmp 2] Try.func52 rfl (by kernel_rfl) rfl (by kernel_rfl) (by kernel_rfl) ?_
  change AT _ _ _ ⟨[(0, .tv (.int .u8 c))], [], [], 0⟩
  refine at_B [0] [] [] [(1000000, .any), (0, .tv (.int .u8 c))] [] 1 (by kernel_rfl) ?_ ?_
  · exact trivial
  refine at_B [2] [] [] [(1000000, .any), (2, .tv (.bool (((decide ((97 : Int) ≤ c)) && (decide (c ≤ (122 : Int)))) || ((decide ((65 : Int) ≤ c)) && (decide (c ≤ (90 : Int)))))))] [] 16 (by kernel_rfl) ?_ ?_
  · exact trivial
  refine at_ret ?_
  refine fin0 (.inr rfl) (.tv (.bool (((decide ((97 : Int) ≤ c)) && (decide (c ≤ (122 : Int)))) || ((decide ((65 : Int) ≤ c)) && (decide (c ≤ (90 : Int))))))) [] (.tv (.bool (((decide ((97 : Int) ≤ c)) && (decide (c ≤ (122 : Int)))) || ((decide ((65 : Int) ≤ c)) && (decide (c ≤ (90 : Int))))))) (H2 := []) (by kernel_rfl) (by kernel_rfl) ?_
  refine Le.of_eq ?_
  first | rfl | (simp only [*])
theorem c51 (c : Int)  : PureCall Try.prog 51 [.tv (.int .u8 c)] (.tv (.bool (wordC c))) := by
  refine walk0 (fn := Try.f51) [.tmp 2] Try.func51 rfl (by kernel_rfl) rfl (by kernel_rfl) (by kernel_rfl) ?_
  change AT _ _ _ ⟨[(0, .tv (.int .u8 c))], [], [], 0⟩
  refine at_B [0] [] [] [(1000000, .any), (0, .tv (.int .u8 c))] [] 1 (by kernel_rfl) ?_ ?_
  · exact trivial
  refine at_B [2] [.std, .ret (.tv (.bool (letterC c))), .std, .std, .ret (.tv (.bool (digitC c)))] [PureCall Try.prog 52 [.tv (.int .u8 c)] (.tv (.bool (letterC c))), ((letterC c) = false) → PureCall Try.prog 55 [.tv (.int .u8 c)] (.tv (.bool (digitC c)))] [(1000000, .any), (2, .tv (.bool (((letterC c) || (digitC c)) || (decide (c = (95 : Int))))))] [] 12 (by kernel_rfl) ?_ ?_
  · exact ⟨(c52 c), fun hg0 => (c55 c), trivial⟩
  refine at_ret ?_
  refine fin0 (.inr rfl) (.tv (.bool (((letterC c) || (digitC c)) || (decide (c = (95 : Int)))))) [] (.tv (.bool (((letterC c) || (digitC c)) || (decide (c = (95 : Int)))))) (H2 := []) (by kernel_rfl) (by kernel_rfl) ?_
  refine Le.of_eq ?_
  first | rfl | (simp only [*])
theorem c33 (n : Int)  : PureCall Try.prog 33 [.tv (.int .i64 n)] (.tv (.bool (decide (0 ≤ n) && decide (n ≤ 1000000)))) := by
  refine walk0 (fn := Try.f33) [.tmp 2] Try.func33 rfl (by kernel_rfl) rfl (by kernel_rfl) (by kernel_rfl) ?_
  change AT _ _ _ ⟨[(0, .tv (.int .i64 n))], [], [], 0⟩
  refine at_B [0] [] [] [(1000000, .any), (0, .tv (.int .i64 n))] [] 1 (by kernel_rfl) ?_ ?_
  · exact trivial
  refine at_B [2] [] [] [(1000000, .any), (2, .tv (.bool ((decide ((0 : Int) ≤ n)) && (decide (n ≤ (1000000 : Int))))))] [] 8 (by kernel_rfl) ?_ ?_
  · exact trivial
  refine at_ret ?_
  refine fin0 (.inr rfl) (.tv (.bool ((decide ((0 : Int) ≤ n)) && (decide (n ≤ (1000000 : Int)))))) [] (.tv (.bool ((decide ((0 : Int) ≤ n)) && (decide (n ≤ (1000000 : Int)))))) (H2 := []) (by kernel_rfl) (by kernel_rfl) ?_
  refine Le.of_eq ?_
  first | rfl | (simp only [*])
theorem c37 (s : ByteArray)  : PureCall Try.prog 37 [.tv (.str s)] (.tv (.bool (nameOk s))) := by
  refine walk0 (fn := Try.f37) [.tmp 2] Try.func37 rfl (by kernel_rfl) rfl (by kernel_rfl) (by kernel_rfl) ?_
  change AT _ _ _ ⟨[(0, .tv (.str s))], [], [], 0⟩
  refine at_strlen 0 rfl (fun hs => ?_)
  refine at_B [0] [] [] [(1000000, .any), (0, .tv (.str s))] [] 1 (by kernel_rfl) ?_ ?_
  · exact trivial
  refine at_seq ?_
  refine at_B [0, 3] [] [] [(1000000, .any), (0, .tv (.str s)), (3, .tv (.int .i64 0))] [] 2 (by kernel_rfl) ?_ ?_
  · exact trivial
  refine at_block ?_
  refine at_loopR (X := Nat) 0 (fun (i : Nat) => [(1000000, .any), (0, .tv (.str s)), (3, .tv (.int .i64 ((i : Nat) : Int)))]) (fun (i : Nat) => []) (fun (i : Nat) => i ≤ s.size ∧ allW s i = true) (fun (i : Nat) => s.size - i) 0 ?_ ?_ ?_
  · exact ⟨Nat.zero_le _, rfl⟩
  · exact rn_ok [] [] [0, 3] (trivial) (by kernel_rfl)
  · intro i hinv
    obtain ⟨hx1, hx2⟩ := hinv
    refine at_seq ?_
    refine at_B [0, 3, 7] [] [] [(1000000, .any), (0, .tv (.str s)), (3, .tv (.int .i64 ((i : Nat) : Int))), (7, .tv (.bool (decide (((i : Nat) : Int) < ((s.size : Nat) : Int)))))] [] 4 (by kernel_rfl) ?_ ?_
    · exact trivial
    refine at_cond (b := (decide (((i : Nat) : Int) < ((s.size : Nat) : Int)))) rfl rfl (fun hc7 => ?_) (fun hc7 => ?_)
    · have q7 := hc7
      (try simp only [List.length_map, Bool.and_eq_true, Bool.or_eq_true, Bool.not_eq_true', decide_eq_true_eq, decide_eq_false_iff_not, Bool.and_eq_false_iff, Bool.or_eq_false_iff, Bool.not_eq_false'] at q7)
      refine at_skip ?_
      change AT _ _ _ _
      refine at_seq ?_
      refine at_block ?_
      refine at_B [0, 3, 14] [.std, .std, .std, .ret (.tv (.bool (wordC (sbyte s ((i : Nat) : Int)))))] [(0 ≤ ((i : Nat) : Int) ∧ ((i : Nat) : Int) < ((s.size : Nat) : Int)), PureCall Try.prog 51 [.tv (.int .u8 (sbyte s ((i : Nat) : Int)))] (.tv (.bool (wordC (sbyte s ((i : Nat) : Int)))))] [(1000000, .any), (0, .tv (.str s)), (3, .tv (.int .i64 ((i : Nat) : Int))), (14, .tv (.bool (!(wordC (sbyte s ((i : Nat) : Int))))))] [] 9 (by kernel_rfl) ?_ ?_
      · exact ⟨by (try simp only [List.length_map, List.length_append, List.length_cons, List.length_nil, List.length_set] at *); omega, (c51 (sbyte s ((i : Nat) : Int))), trivial⟩
      refine at_cond (b := (!(wordC (sbyte s ((i : Nat) : Int))))) rfl rfl (fun hc14 => ?_) (fun hc14 => ?_)
      · have q14 := hc14
        (try simp only [List.length_map, Bool.and_eq_true, Bool.or_eq_true, Bool.not_eq_true', decide_eq_true_eq, decide_eq_false_iff_not, Bool.and_eq_false_iff, Bool.or_eq_false_iff, Bool.not_eq_false'] at q14)
        refine at_B [2] [] [] [(1000000, .any), (2, .tv (.bool false))] [] 10 (by kernel_rfl) ?_ ?_
        · exact trivial
        refine at_ret ?_
        refine fin0 (.inr rfl) (.tv (.bool false)) [] (.tv (.bool false)) (H2 := []) (by kernel_rfl) (by kernel_rfl) ?_
        refine Le.of_eq ?_
        first | rfl | (simp only [nameOk, allW_false (i := i) (by simpa using hc14) s.size (by omega), Bool.false_and]) | (simp only [nameOk, hx2, Bool.true_and])
      · have q14 := hc14
        (try simp only [List.length_map, Bool.and_eq_true, Bool.or_eq_true, Bool.not_eq_true', decide_eq_true_eq, decide_eq_false_iff_not, Bool.and_eq_false_iff, Bool.or_eq_false_iff, Bool.not_eq_false'] at q14)
        refine at_skip ?_
        change AT _ _ _ _
        refine at_Bl [0, 3] [.std, .eq (.tv (.int .i64 ((i + 1 : Nat) : Int)))] [(.tv (.int .i64 (wr (((i : Nat) : Int) + 1))) : AV) = .tv (.int .i64 ((i + 1 : Nat) : Int))] [(1000000, .any), (0, .tv (.str s)), (3, .tv (.int .i64 ((i + 1 : Nat) : Int)))] [] 12 (by kernel_rfl) ?_ ?_
        · exact ⟨succ_av i (by (try simp only [List.length_map, List.length_append, List.length_cons, List.length_nil, List.length_set] at *); omega), trivial⟩
        refine ⟨rfl, (i + 1), ?_, ?_, ?_⟩
        · (try dsimp only); omega
        · exact ⟨by omega, by simp only [allW, hx2]; simpa using hc14⟩
        · exact rn_ok [] [] [0, 3] (trivial) (by kernel_rfl)
    · have q7 := hc7
      (try simp only [List.length_map, Bool.and_eq_true, Bool.or_eq_true, Bool.not_eq_true', decide_eq_true_eq, decide_eq_false_iff_not, Bool.and_eq_false_iff, Bool.or_eq_false_iff, Bool.not_eq_false'] at q7)
      have hxe : i = s.size := by omega
      subst hxe
      refine at_exit ?_
      change AT _ _ _ _
      refine at_B [2] [.std, .std, .std, .std, .std, .std, .std, .std, .std, .std, .std, .ret (.tv (.bool (letterC (sbyte s (0 : Int)))))] [(((decide ((0 : Int) < ((s.size : Nat) : Int))) && (decide (((s.size : Nat) : Int) ≤ (24 : Int)))) = true) → (0 ≤ (0 : Int) ∧ (0 : Int) < ((s.size : Nat) : Int)), (((decide ((0 : Int) < ((s.size : Nat) : Int))) && (decide (((s.size : Nat) : Int) ≤ (24 : Int)))) = true) → PureCall Try.prog 52 [.tv (.int .u8 (sbyte s (0 : Int)))] (.tv (.bool (letterC (sbyte s (0 : Int)))))] [(1000000, .any), (2, .tv (.bool (((decide ((0 : Int) < ((s.size : Nat) : Int))) && (decide (((s.size : Nat) : Int) ≤ (24 : Int)))) && (letterC (sbyte s (0 : Int))))))] [] 17 (by kernel_rfl) ?_ ?_
      · exact ⟨fun hg0 => by (try simp only [List.length_map, Bool.and_eq_true, Bool.or_eq_true, Bool.not_eq_true', decide_eq_true_eq, decide_eq_false_iff_not, Bool.and_eq_false_iff, Bool.or_eq_false_iff, Bool.not_eq_false', List.length_append, List.length_cons, List.length_nil, List.length_set] at *); omega, fun hg0 => (c52 (sbyte s (0 : Int))), trivial⟩
      refine at_ret ?_
      refine fin0 (.inr rfl) (.tv (.bool (((decide ((0 : Int) < ((s.size : Nat) : Int))) && (decide (((s.size : Nat) : Int) ≤ (24 : Int)))) && (letterC (sbyte s (0 : Int)))))) [] (.tv (.bool (((decide ((0 : Int) < ((s.size : Nat) : Int))) && (decide (((s.size : Nat) : Int) ≤ (24 : Int)))) && (letterC (sbyte s (0 : Int)))))) (H2 := []) (by kernel_rfl) (by kernel_rfl) ?_
      refine Le.of_eq ?_
      first | rfl | (simp only [nameOk, allW_false (i := i) (by simpa using hc14) s.size (by omega), Bool.false_and]) | (simp only [nameOk, hx2, Bool.true_and])
theorem c36 : ∀ (f : Fm), PureCall Try.prog 36 [agF f] (.tup [.tv (.int .i64 ((szF f).1)), .tv (.int .i64 ((szF f).2))]) := by
  refine Fm.ind (fun f ih => ?_)
  refine walk0 (fn := Try.f36) [.tmp 2, .tmp 3] Try.func36 rfl (by kernel_rfl) rfl (by kernel_rfl) (by kernel_rfl) ?_
  change AT _ _ _ ⟨[(0, agF f)], [], [], 0⟩
  refine at_B [1, 3] [] [] [(1000000, .any), (1, .ptr [0] 0), (3, .tv (.int .i64 0))] [([0], .row ((celF f).map .tv) false)] 3 (by kernel_rfl) ?_ ?_
  · exact trivial
  refine at_B [1, 2, 3] [] [] [(1000000, .any), (1, .ptr [0] 0), (2, .tv (.int .i64 1)), (3, .tv (.int .i64 0))] [([0], .row ((celF f).map .tv) false)] 4 (by kernel_rfl) ?_ ?_
  · exact trivial
  refine at_seq ?_
  refine at_B [2, 3, 9, 10, 11] [] [] [(1000000, .any), (2, .tv (.int .i64 1)), (3, .tv (.int .i64 0)), (9, .tv (.sli 5 (f.ks.map encF))), (10, .tv (.int .i64 (((f.ks.map encF).length : Nat) : Int))), (11, .tv (.int .i64 0))] [([0], .row ((celF f).map .tv) false)] 8 (by kernel_rfl) ?_ ?_
  · exact trivial
  refine at_block ?_
  refine at_len 9 rfl (fun hlen => ?_)
  refine at_loopR (X := Nat × Int × Int) 0 (fun ((i, a, d) : Nat × Int × Int) => [(1000000, .any), (2, .tv (.int .i64 a)), (3, .tv (.int .i64 d)), (9, .tv (.sli 5 (f.ks.map encF))), (10, .tv (.int .i64 (((f.ks.map encF).length : Nat) : Int))), (11, .tv (.int .i64 ((i : Nat) : Int)))]) (fun ((i, a, d) : Nat × Int × Int) => [([0], .row ((celF f).map .tv) false)]) (fun ((i, a, d) : Nat × Int × Int) => i ≤ f.ks.length ∧ szFs (f.ks.drop i) a d = szFs f.ks 1 0) (fun ((i, a, d) : Nat × Int × Int) => f.ks.length - i) (0, 1, 0) ?_ ?_ ?_
  · exact ⟨Nat.zero_le _, rfl⟩
  · exact rn_ok [([0], [0])] [] [2, 3, 9, 10, 11] (trivial) (by kernel_rfl)
  · rintro ⟨i, a, d⟩ hinv
    dsimp only at hinv ⊢
    obtain ⟨hx1, hx2⟩ := hinv
    refine at_B [2, 3, 9, 10, 11, 12] [] [] [(1000000, .any), (2, .tv (.int .i64 a)), (3, .tv (.int .i64 d)), (9, .tv (.sli 5 (f.ks.map encF))), (10, .tv (.int .i64 (((f.ks.map encF).length : Nat) : Int))), (11, .tv (.int .i64 ((i : Nat) : Int))), (12, .tv (.bool (decide (((i : Nat) : Int) < (((f.ks.map encF).length : Nat) : Int)))))] [([0], .row ((celF f).map .tv) false)] 1 (by kernel_rfl) ?_ ?_
    · exact trivial
    refine at_seq ?_
    refine at_cond (b := (decide (((i : Nat) : Int) < (((f.ks.map encF).length : Nat) : Int)))) rfl rfl (fun hc12 => ?_) (fun hc12 => ?_)
    · have q12 := hc12
      (try simp only [List.length_map, Bool.and_eq_true, Bool.or_eq_true, Bool.not_eq_true', decide_eq_true_eq, decide_eq_false_iff_not, Bool.and_eq_false_iff, Bool.or_eq_false_iff, Bool.not_eq_false'] at q12)
      refine at_skip ?_
      change AT _ _ _ _
      refine at_seq ?_
      refine at_block ?_
      refine at_B [2, 3, 5, 9, 10, 11] [.eq (.tv (.ptr (celF (f.ks.getD i Fm.z))))] [(0 ≤ ((i : Nat) : Int) ∧ ((i : Nat) : Int) < ((((f.ks.map encF) : List (List TV)).length : Nat) : Int)), (.tv (.ptr (rowAt (f.ks.map encF) ((i : Nat) : Int))) : AV) = .tv (.ptr (celF (f.ks.getD i Fm.z)))] [(1000000, .any), (2, .tv (.int .i64 a)), (3, .tv (.int .i64 d)), (5, .ptr [3, 8] 0), (9, .tv (.sli 5 (f.ks.map encF))), (10, .tv (.int .i64 (((f.ks.map encF).length : Nat) : Int))), (11, .tv (.int .i64 ((i : Nat) : Int)))] [([3, 8], .row ((celF (f.ks.getD i Fm.z)).map .tv) false), ([0], .row ((celF f).map .tv) false)] 5 (by kernel_rfl) ?_ ?_
      · exact ⟨by (try simp only [List.length_map, List.length_append, List.length_cons, List.length_nil, List.length_set] at *); omega, congrArg (fun c => AV.tv (.ptr c)) (row_F f.ks ((i : Nat) : Int) (by (try simp only [List.length_map, Bool.and_eq_true, Bool.or_eq_true, Bool.not_eq_true', decide_eq_true_eq, decide_eq_false_iff_not, Bool.and_eq_false_iff, Bool.or_eq_false_iff, Bool.not_eq_false', List.length_append, List.length_cons, List.length_nil, List.length_set] at *); omega)), trivial⟩
      refine at_B [2, 3, 6, 7, 9, 10, 11] [.std, .ret (.tup [.tv (.int .i64 ((szF (f.ks.getD i Fm.z)).1)), .tv (.int .i64 ((szF (f.ks.getD i Fm.z)).2))])] [PureCall Try.prog 36 [agF (f.ks.getD i Fm.z)] (.tup [.tv (.int .i64 ((szF (f.ks.getD i Fm.z)).1)), .tv (.int .i64 ((szF (f.ks.getD i Fm.z)).2))])] [(1000000, .any), (2, .tv (.int .i64 a)), (3, .tv (.int .i64 d)), (6, .tv (.int .i64 ((szF (f.ks.getD i Fm.z)).1))), (7, .tv (.int .i64 ((szF (f.ks.getD i Fm.z)).2))), (9, .tv (.sli 5 (f.ks.map encF))), (10, .tv (.int .i64 (((f.ks.map encF).length : Nat) : Int))), (11, .tv (.int .i64 ((i : Nat) : Int)))] [([3, 8], .row ((celF (f.ks.getD i Fm.z)).map .tv) false), ([0], .row ((celF f).map .tv) false)] 12 (by kernel_rfl) ?_ ?_
      · exact ⟨(ih _ (getD_mem (by omega))), trivial⟩
      refine at_Bl [2, 3, 9, 10, 11] [] [] [(1000000, .any), (2, .tv (.int .i64 (wr (a + ((szF (f.ks.getD i Fm.z)).1))))), (3, .tv (.int .i64 (mx d ((szF (f.ks.getD i Fm.z)).2)))), (9, .tv (.sli 5 (f.ks.map encF))), (10, .tv (.int .i64 (((f.ks.map encF).length : Nat) : Int))), (11, .tv (.int .i64 ((i : Nat) : Int)))] [([3, 8], .row ((celF (f.ks.getD i Fm.z)).map .tv) false), ([0], .row ((celF f).map .tv) false)] 20 (by kernel_rfl) ?_ ?_
      · exact trivial
      change AT _ _ _ _
      refine at_Bl [2, 3, 9, 10, 11] [.eq (.tv (.int .i64 ((i + 1 : Nat) : Int)))] [(.tv (.int .i64 (wr (((i : Nat) : Int) + 1))) : AV) = .tv (.int .i64 ((i + 1 : Nat) : Int))] [(1000000, .any), (2, .tv (.int .i64 (wr (a + ((szF (f.ks.getD i Fm.z)).1))))), (3, .tv (.int .i64 (mx d ((szF (f.ks.getD i Fm.z)).2)))), (9, .tv (.sli 5 (f.ks.map encF))), (10, .tv (.int .i64 (((f.ks.map encF).length : Nat) : Int))), (11, .tv (.int .i64 ((i + 1 : Nat) : Int)))] [([3, 8], .row ((celF (f.ks.getD i Fm.z)).map .tv) false), ([0], .row ((celF f).map .tv) false)] 22 (by kernel_rfl) ?_ ?_
      · exact ⟨succ_av i (by (try simp only [List.length_map, List.length_append, List.length_cons, List.length_nil, List.length_set] at *); omega), trivial⟩
      refine ⟨rfl, (i + 1, wr (a + ((szF (f.ks.getD i Fm.z)).1)), mx d ((szF (f.ks.getD i Fm.z)).2)), ?_, ?_, ?_⟩
      · (try dsimp only); omega
      · (try dsimp only); exact ⟨by omega, by rw [← hx2, drop_get f.ks i Fm.z (by omega), szFs]⟩
      · exact rn_ok [([0], [0])] [] [2, 3, 9, 10, 11] (trivial) (by kernel_rfl)
    · have q12 := hc12
      (try simp only [List.length_map, Bool.and_eq_true, Bool.or_eq_true, Bool.not_eq_true', decide_eq_true_eq, decide_eq_false_iff_not, Bool.and_eq_false_iff, Bool.or_eq_false_iff, Bool.not_eq_false'] at q12)
      refine at_exit ?_
      change AT _ _ _ _
      refine at_B [2, 3] [] [] [(1000000, .any), (2, .tv (.int .i64 a)), (3, .tv (.int .i64 (wr (d + 1))))] [([0], .row ((celF f).map .tv) false)] 14 (by kernel_rfl) ?_ ?_
      · exact trivial
      refine at_ret ?_
      refine fin0 (.inr rfl) (.tup [.tv (.int .i64 a), .tv (.int .i64 (wr (d + 1)))]) [([0], .row ((celF f).map .tv) false)] (.tup [.tv (.int .i64 a), .tv (.int .i64 (wr (d + 1)))]) (H2 := [([0], .row ((celF f).map .tv) false)]) (by kernel_rfl) (by kernel_rfl) ?_
      refine Le.of_eq ?_
      rw [szF_eq, ← hx2, List.drop_of_length_le (by omega)]; rfl
theorem c38 : ∀ (f : Fm), PureCall Try.prog 38 [agF f] (.tup [.tv (.int .i64 ((szF f).1)), .tv (.int .i64 ((szF f).2))]) := by
  refine Fm.ind (fun f ih => ?_)
  refine walk0 (fn := Try.f38) [.tmp 2, .tmp 3] Try.func38 rfl (by kernel_rfl) rfl (by kernel_rfl) (by kernel_rfl) ?_
  change AT _ _ _ ⟨[(0, agF f)], [], [], 0⟩
  refine at_agF 0 rfl (fun hlen => ?_)
  refine at_B [1] [] [] [(1000000, .any), (1, .ptr [0] 0)] [([0], .row ((celF f).map .tv) false)] 3 (by kernel_rfl) ?_ ?_
  · exact trivial
  refine at_B [1, 4] [] [] [(1000000, .any), (1, .ptr [0] 0), (4, .tv (.int .i64 1))] [([0], .row ((celF f).map .tv) false)] 4 (by kernel_rfl) ?_ ?_
  · exact trivial
  refine at_B [1, 4, 5] [] [] [(1000000, .any), (1, .ptr [0] 0), (4, .tv (.int .i64 1)), (5, .tv (.int .i64 0))] [([0], .row ((celF f).map .tv) false)] 5 (by kernel_rfl) ?_ ?_
  · exact trivial
  refine at_seq ?_
  refine at_B [1, 4, 5, 6] [] [] [(1000000, .any), (1, .ptr [0] 0), (4, .tv (.int .i64 1)), (5, .tv (.int .i64 0)), (6, .tv (.int .i64 0))] [([0], .row ((celF f).map .tv) false)] 6 (by kernel_rfl) ?_ ?_
  · exact trivial
  refine at_block ?_
  refine at_loopR (X := Nat × Int × Int) 0 (fun ((i, a, d) : Nat × Int × Int) => [(1000000, .any), (1, .ptr [0] 0), (4, .tv (.int .i64 a)), (5, .tv (.int .i64 d)), (6, .tv (.int .i64 ((i : Nat) : Int)))]) (fun ((i, a, d) : Nat × Int × Int) => [([0], .row ((celF f).map .tv) false)]) (fun ((i, a, d) : Nat × Int × Int) => i ≤ f.ks.length ∧ szFs (f.ks.drop i) a d = szFs f.ks 1 0) (fun ((i, a, d) : Nat × Int × Int) => f.ks.length - i) (0, 1, 0) ?_ ?_ ?_
  · exact ⟨Nat.zero_le _, rfl⟩
  · exact rn_ok [([0], [0])] [] [1, 4, 5, 6] (trivial) (by kernel_rfl)
  · rintro ⟨i, a, d⟩ hinv
    dsimp only at hinv ⊢
    obtain ⟨hx1, hx2⟩ := hinv
    refine at_seq ?_
    refine at_B [1, 4, 5, 6, 13] [] [] [(1000000, .any), (1, .ptr [0] 0), (4, .tv (.int .i64 a)), (5, .tv (.int .i64 d)), (6, .tv (.int .i64 ((i : Nat) : Int))), (13, .tv (.bool (decide (((i : Nat) : Int) < (((f.ks.map encF).length : Nat) : Int)))))] [([0], .row ((celF f).map .tv) false)] 5 (by kernel_rfl) ?_ ?_
    · exact trivial
    refine at_cond (b := (decide (((i : Nat) : Int) < (((f.ks.map encF).length : Nat) : Int)))) rfl rfl (fun hc13 => ?_) (fun hc13 => ?_)
    · have q13 := hc13
      (try simp only [List.length_map, Bool.and_eq_true, Bool.or_eq_true, Bool.not_eq_true', decide_eq_true_eq, decide_eq_false_iff_not, Bool.and_eq_false_iff, Bool.or_eq_false_iff, Bool.not_eq_false'] at q13)
      refine at_skip ?_
      change AT _ _ _ _
      refine at_seq ?_
      refine at_block ?_
      refine at_B [1, 4, 5, 6, 7, 8] [.std, .std, .std, .eq (.tv (.ptr (celF (f.ks.getD i Fm.z)))), .std, .ret (.tup [.tv (.int .i64 ((szF (f.ks.getD i Fm.z)).1)), .tv (.int .i64 ((szF (f.ks.getD i Fm.z)).2))])] [(0 ≤ ((i : Nat) : Int) ∧ ((i : Nat) : Int) < ((((f.ks.map encF) : List (List TV)).length : Nat) : Int)), (.tv (.ptr (rowAt (f.ks.map encF) ((i : Nat) : Int))) : AV) = .tv (.ptr (celF (f.ks.getD i Fm.z))), PureCall Try.prog 38 [agF (f.ks.getD i Fm.z)] (.tup [.tv (.int .i64 ((szF (f.ks.getD i Fm.z)).1)), .tv (.int .i64 ((szF (f.ks.getD i Fm.z)).2))])] [(1000000, .any), (1, .ptr [0] 0), (4, .tv (.int .i64 a)), (5, .tv (.int .i64 d)), (6, .tv (.int .i64 ((i : Nat) : Int))), (7, .tv (.int .i64 ((szF (f.ks.getD i Fm.z)).1))), (8, .tv (.int .i64 ((szF (f.ks.getD i Fm.z)).2)))] [([0], .row ((celF f).map .tv) false)] 16 (by kernel_rfl) ?_ ?_
      · exact ⟨by (try simp only [List.length_map, List.length_append, List.length_cons, List.length_nil, List.length_set] at *); omega, congrArg (fun c => AV.tv (.ptr c)) (row_F f.ks ((i : Nat) : Int) (by (try simp only [List.length_map, Bool.and_eq_true, Bool.or_eq_true, Bool.not_eq_true', decide_eq_true_eq, decide_eq_false_iff_not, Bool.and_eq_false_iff, Bool.or_eq_false_iff, Bool.not_eq_false', List.length_append, List.length_cons, List.length_nil, List.length_set] at *); omega)), (ih _ (getD_mem (by omega))), trivial⟩
      refine at_B [1, 4, 5, 6, 8] [] [] [(1000000, .any), (1, .ptr [0] 0), (4, .tv (.int .i64 (wr (a + ((szF (f.ks.getD i Fm.z)).1))))), (5, .tv (.int .i64 d)), (6, .tv (.int .i64 ((i : Nat) : Int))), (8, .tv (.int .i64 ((szF (f.ks.getD i Fm.z)).2)))] [([0], .row ((celF f).map .tv) false)] 20 (by kernel_rfl) ?_ ?_
      · exact trivial
      refine at_Bl [1, 4, 5, 6] [] [] [(1000000, .any), (1, .ptr [0] 0), (4, .tv (.int .i64 (wr (a + ((szF (f.ks.getD i Fm.z)).1))))), (5, .tv (.int .i64 (mx d ((szF (f.ks.getD i Fm.z)).2)))), (6, .tv (.int .i64 ((i : Nat) : Int)))] [([0], .row ((celF f).map .tv) false)] 24 (by kernel_rfl) ?_ ?_
      · exact trivial
      change AT _ _ _ _
      refine at_Bl [1, 4, 5, 6] [.std, .eq (.tv (.int .i64 ((i + 1 : Nat) : Int)))] [(.tv (.int .i64 (wr (((i : Nat) : Int) + 1))) : AV) = .tv (.int .i64 ((i + 1 : Nat) : Int))] [(1000000, .any), (1, .ptr [0] 0), (4, .tv (.int .i64 (wr (a + ((szF (f.ks.getD i Fm.z)).1))))), (5, .tv (.int .i64 (mx d ((szF (f.ks.getD i Fm.z)).2)))), (6, .tv (.int .i64 ((i + 1 : Nat) : Int)))] [([0], .row ((celF f).map .tv) false)] 27 (by kernel_rfl) ?_ ?_
      · exact ⟨succ_av i (by (try simp only [List.length_map, List.length_append, List.length_cons, List.length_nil, List.length_set] at *); omega), trivial⟩
      refine ⟨rfl, (i + 1, wr (a + ((szF (f.ks.getD i Fm.z)).1)), mx d ((szF (f.ks.getD i Fm.z)).2)), ?_, ?_, ?_⟩
      · (try dsimp only); omega
      · (try dsimp only); exact ⟨by omega, by rw [← hx2, drop_get f.ks i Fm.z (by omega), szFs]⟩
      · exact rn_ok [([0], [0])] [] [1, 4, 5, 6] (trivial) (by kernel_rfl)
    · have q13 := hc13
      (try simp only [List.length_map, Bool.and_eq_true, Bool.or_eq_true, Bool.not_eq_true', decide_eq_true_eq, decide_eq_false_iff_not, Bool.and_eq_false_iff, Bool.or_eq_false_iff, Bool.not_eq_false'] at q13)
      refine at_exit ?_
      change AT _ _ _ _
      refine at_B [2, 3] [] [] [(1000000, .any), (2, .tv (.int .i64 a)), (3, .tv (.int .i64 (wr (d + 1))))] [([0], .row ((celF f).map .tv) false)] 12 (by kernel_rfl) ?_ ?_
      · exact trivial
      refine at_ret ?_
      refine fin0 (.inr rfl) (.tup [.tv (.int .i64 a), .tv (.int .i64 (wr (d + 1)))]) [([0], .row ((celF f).map .tv) false)] (.tup [.tv (.int .i64 a), .tv (.int .i64 (wr (d + 1)))]) (H2 := [([0], .row ((celF f).map .tv) false)]) (by kernel_rfl) (by kernel_rfl) ?_
      refine Le.of_eq ?_
      rw [szF_eq, ← hx2, List.drop_of_length_le (by omega)]; rfl
end Go.Proofs.Ythmimpiegnnmdaa
