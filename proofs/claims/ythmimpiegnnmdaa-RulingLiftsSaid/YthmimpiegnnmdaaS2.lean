/- Walks of the small functions. -/
import Derived.Test.YthmimpiegnnmdaaFun2
namespace Go.Proofs.Ythmimpiegnnmdaa
open Go.RowKit
set_option maxRecDepth 10000
set_option linter.unusedSimpArgs false
set_option linter.unusedVariables false

theorem c44 : ∀ (f : Fm) (m : Int), PureCall Try.prog 44 [agF f, .tv (.int .i64 m)] (.tv (.int .i64 (cntF f m))) := by
  refine Fm.ind (fun f ih => ?_)
  intro m
  refine walk0 (fn := Try.f44) [.tmp 4] Try.func44 rfl (by kernel_rfl) rfl (by kernel_rfl) (by kernel_rfl) ?_
  change AT _ _ _ ⟨[(0, agF f), (1, .tv (.int .i64 m))], [], [], 0⟩
  refine at_agF 0 rfl (fun hlen => ?_)
  refine at_B [1, 2] [] [] [(1000000, .any), (1, .tv (.int .i64 m)), (2, .ptr [0] 0)] [([0], .row ((celF f).map .tv) false)] 2 (by kernel_rfl) ?_ ?_
  · exact trivial
  refine at_B [1, 2, 5] [] [] [(1000000, .any), (1, .tv (.int .i64 m)), (2, .ptr [0] 0), (5, .tv (.int .i64 1))] [([0], .row ((celF f).map .tv) false)] 3 (by kernel_rfl) ?_ ?_
  · exact trivial
  refine at_seq ?_
  refine at_B [1, 2, 5, 6] [] [] [(1000000, .any), (1, .tv (.int .i64 m)), (2, .ptr [0] 0), (5, .tv (.int .i64 1)), (6, .tv (.int .i64 0))] [([0], .row ((celF f).map .tv) false)] 4 (by kernel_rfl) ?_ ?_
  · exact trivial
  refine at_block ?_
  refine at_loopR (X := Nat × Int) 0 (fun ((i, c) : Nat × Int) => [(1000000, .any), (1, .tv (.int .i64 m)), (2, .ptr [0] 0), (5, .tv (.int .i64 c)), (6, .tv (.int .i64 ((i : Nat) : Int)))]) (fun ((i, c) : Nat × Int) => [([0], .row ((celF f).map .tv) false)]) (fun ((i, c) : Nat × Int) => i ≤ f.ks.length ∧ cntFs (f.ks.drop i) m c = cntFs f.ks m 1) (fun ((i, c) : Nat × Int) => f.ks.length - i) (0, 1) ?_ ?_ ?_
  · exact ⟨Nat.zero_le _, rfl⟩
  · exact rn_ok [([0], [0])] [] [1, 2, 5, 6] (trivial) (by kernel_rfl)
  · rintro ⟨i, c⟩ hinv
    dsimp only at hinv ⊢
    obtain ⟨hx1, hx2⟩ := hinv
    refine at_seq ?_
    refine at_B [1, 2, 5, 6, 16] [] [] [(1000000, .any), (1, .tv (.int .i64 m)), (2, .ptr [0] 0), (5, .tv (.int .i64 c)), (6, .tv (.int .i64 ((i : Nat) : Int))), (16, .tv (.bool ((decide (((i : Nat) : Int) < (((f.ks.map encF).length : Nat) : Int))) && (decide (c ≤ m)))))] [([0], .row ((celF f).map .tv) false)] 10 (by kernel_rfl) ?_ ?_
    · exact trivial
    refine at_cond (b := ((decide (((i : Nat) : Int) < (((f.ks.map encF).length : Nat) : Int))) && (decide (c ≤ m)))) rfl rfl (fun hc16 => ?_) (fun hc16 => ?_)
    · have q16 := hc16
      (try simp only [List.length_map, Bool.and_eq_true, Bool.or_eq_true, Bool.not_eq_true', decide_eq_true_eq, decide_eq_false_iff_not, Bool.and_eq_false_iff, Bool.or_eq_false_iff, Bool.not_eq_false'] at q16)
      refine at_skip ?_
      change AT _ _ _ _
      refine at_seq ?_
      refine at_block ?_
      refine at_Bl [1, 2, 5, 6] [.std, .std, .std, .std, .eq (.tv (.ptr (celF (f.ks.getD i Fm.z)))), .std, .std, .std, .std, .ret (.tv (.int .i64 (cntF (f.ks.getD i Fm.z) (wr (m - c)))))] [(0 ≤ ((i : Nat) : Int) ∧ ((i : Nat) : Int) < ((((f.ks.map encF) : List (List TV)).length : Nat) : Int)), (.tv (.ptr (rowAt (f.ks.map encF) ((i : Nat) : Int))) : AV) = .tv (.ptr (celF (f.ks.getD i Fm.z))), PureCall Try.prog 44 [agF (f.ks.getD i Fm.z), .tv (.int .i64 (wr (m - c)))] (.tv (.int .i64 (cntF (f.ks.getD i Fm.z) (wr (m - c)))))] [(1000000, .any), (1, .tv (.int .i64 m)), (2, .ptr [0] 0), (5, .tv (.int .i64 (wr (c + (cntF (f.ks.getD i Fm.z) (wr (m - c))))))), (6, .tv (.int .i64 ((i : Nat) : Int)))] [([0], .row ((celF f).map .tv) false)] 22 (by kernel_rfl) ?_ ?_
      · exact ⟨by (try simp only [List.length_map, List.length_append, List.length_cons, List.length_nil, List.length_set] at *); omega, congrArg (fun c => AV.tv (.ptr c)) (row_F f.ks ((i : Nat) : Int) (by (try simp only [List.length_map, Bool.and_eq_true, Bool.or_eq_true, Bool.not_eq_true', decide_eq_true_eq, decide_eq_false_iff_not, Bool.and_eq_false_iff, Bool.or_eq_false_iff, Bool.not_eq_false', List.length_append, List.length_cons, List.length_nil, List.length_set] at *); omega)), (ih _ (getD_mem (by omega)) _), trivial⟩
      change AT _ _ _ _
      refine at_Bl [1, 2, 5, 6] [.std, .eq (.tv (.int .i64 ((i + 1 : Nat) : Int)))] [(.tv (.int .i64 (wr (((i : Nat) : Int) + 1))) : AV) = .tv (.int .i64 ((i + 1 : Nat) : Int))] [(1000000, .any), (1, .tv (.int .i64 m)), (2, .ptr [0] 0), (5, .tv (.int .i64 (wr (c + (cntF (f.ks.getD i Fm.z) (wr (m - c))))))), (6, .tv (.int .i64 ((i + 1 : Nat) : Int)))] [([0], .row ((celF f).map .tv) false)] 25 (by kernel_rfl) ?_ ?_
      · exact ⟨succ_av i (by (try simp only [List.length_map, List.length_append, List.length_cons, List.length_nil, List.length_set] at *); omega), trivial⟩
      refine ⟨rfl, (i + 1, wr (c + (cntF (f.ks.getD i Fm.z) (wr (m - c))))), ?_, ?_, ?_⟩
      · (try dsimp only); omega
      · (try dsimp only); exact ⟨by omega, by rw [← hx2, drop_get f.ks i Fm.z (by omega), cntFs, if_pos q16.2]⟩
      · exact rn_ok [([0], [0])] [] [1, 2, 5, 6] (trivial) (by kernel_rfl)
    · have q16 := hc16
      (try simp only [List.length_map, Bool.and_eq_true, Bool.or_eq_true, Bool.not_eq_true', decide_eq_true_eq, decide_eq_false_iff_not, Bool.and_eq_false_iff, Bool.or_eq_false_iff, Bool.not_eq_false'] at q16)
      refine at_exit ?_
      change AT _ _ _ _
      refine at_B [4] [] [] [(1000000, .any), (4, .tv (.int .i64 c))] [([0], .row ((celF f).map .tv) false)] 7 (by kernel_rfl) ?_ ?_
      · exact trivial
      refine at_ret ?_
      refine fin0 (.inr rfl) (.tv (.int .i64 c)) [([0], .row ((celF f).map .tv) false)] (.tv (.int .i64 c)) (H2 := [([0], .row ((celF f).map .tv) false)]) (by kernel_rfl) (by kernel_rfl) ?_
      refine Le.of_eq ?_
      rw [cntF_eq, ← hx2]
      by_cases e : i < f.ks.length
      · rw [drop_get f.ks i Fm.z e, cntFs, if_neg (by rcases q16 with q | q <;> omega)]
      · rw [List.drop_of_length_le (by omega), cntFs]
theorem c27 (f : Fm) (m : Int)  : PureCall Try.prog 27 [agF f, .tv (.int .i64 m)] (.tv (.bool (smallF f m))) := by
  refine walk0 (fn := Try.f27) [.tmp 4] Try.func27 rfl (by kernel_rfl) rfl (by kernel_rfl) (by kernel_rfl) ?_
  change AT _ _ _ ⟨[(0, agF f), (1, .tv (.int .i64 m))], [], [], 0⟩
  refine at_B [1, 2] [] [] [(1000000, .any), (1, .tv (.int .i64 m)), (2, .ptr [0] 0)] [([0], .row ((celF f).map .tv) false)] 2 (by kernel_rfl) ?_ ?_
  · exact trivial
  refine at_B [4] [.std, .std, .ret (.tv (.int .i64 (cntF f m)))] [PureCall Try.prog 44 [agF f, .tv (.int .i64 m)] (.tv (.int .i64 (cntF f m)))] [(1000000, .any), (4, .tv (.bool (decide ((cntF f m) ≤ m))))] [([0], .row ((celF f).map .tv) false)] 8 (by kernel_rfl) ?_ ?_
  · exact ⟨(c44 f m), trivial⟩
  refine at_ret ?_
  refine fin0 (.inr rfl) (.tv (.bool (decide ((cntF f m) ≤ m)))) [([0], .row ((celF f).map .tv) false)] (.tv (.bool (decide ((cntF f m) ≤ m)))) (H2 := [([0], .row ((celF f).map .tv) false)]) (by kernel_rfl) (by kernel_rfl) ?_
  refine Le.of_eq ?_
  first | rfl | (simp only [*])
theorem c39 : ∀ (f : Fm) (g : Fm), PureCall Try.prog 39 [agF f, agF g] (.tv (.bool (sameF f g))) := by
  refine Fm.ind (fun f ih => ?_)
  intro g
  refine walk0 (fn := Try.f39) [.tmp 4] Try.func39 rfl (by kernel_rfl) rfl (by kernel_rfl) (by kernel_rfl) ?_
  change AT _ _ _ ⟨[(0, agF f), (1, agF g)], [], [], 0⟩
  refine at_agF 0 rfl (fun hlen => ?_)
  refine at_agF 1 rfl (fun hlen2 => ?_)
  refine at_B [2, 3] [] [] [(1000000, .any), (2, .ptr [0] 0), (3, .ptr [1] 0)] [([1], .row ((celF g).map .tv) false), ([0], .row ((celF f).map .tv) false)] 3 (by kernel_rfl) ?_ ?_
  · exact trivial
  refine at_seq ?_
  refine at_B [2, 3, 40] [] [] [(1000000, .any), (2, .ptr [0] 0), (3, .ptr [1] 0), (40, .tv (.bool (((((!decide (f.op = g.op)) || (!decide (f.nm = g.nm))) || (!decide (f.cm = g.cm))) || (!decide (f.n = g.n))) || (!decide ((((f.ks.map encF).length : Nat) : Int) = (((g.ks.map encF).length : Nat) : Int))))))] [([1], .row ((celF g).map .tv) false), ([0], .row ((celF f).map .tv) false)] 38 (by kernel_rfl) ?_ ?_
  · exact trivial
  refine at_cond (b := (((((!decide (f.op = g.op)) || (!decide (f.nm = g.nm))) || (!decide (f.cm = g.cm))) || (!decide (f.n = g.n))) || (!decide ((((f.ks.map encF).length : Nat) : Int) = (((g.ks.map encF).length : Nat) : Int))))) rfl rfl (fun hc40 => ?_) (fun hc40 => ?_)
  · have q40 := hc40
    (try simp only [List.length_map, Bool.and_eq_true, Bool.or_eq_true, Bool.not_eq_true', decide_eq_true_eq, decide_eq_false_iff_not, Bool.and_eq_false_iff, Bool.or_eq_false_iff, Bool.not_eq_false'] at q40)
    refine at_B [4] [] [] [(1000000, .any), (4, .tv (.bool false))] [([1], .row ((celF g).map .tv) false), ([0], .row ((celF f).map .tv) false)] 39 (by kernel_rfl) ?_ ?_
    · exact trivial
    refine at_ret ?_
    refine fin0 (.inr rfl) (.tv (.bool false)) [([1], .row ((celF g).map .tv) false), ([0], .row ((celF f).map .tv) false)] (.tv (.bool false)) (H2 := [([1], .row ((celF g).map .tv) false), ([0], .row ((celF f).map .tv) false)]) (by kernel_rfl) (by kernel_rfl) ?_
    refine Le.of_eq ?_
    rw [sameF_eq]
    simp only [AV.tv.injEq, TV.bool.injEq]
    symm
    simp only [Bool.and_eq_false_iff, decide_eq_false_iff_not, Bool.and_eq_true]
    rcases q40 with (((q | q) | q) | q) | q <;> first | (simp [q]; done) | (have q' : ¬ f.ks.length = g.ks.length := (by omega); simp [q'])
  · have q40 := hc40
    (try simp only [List.length_map, Bool.and_eq_true, Bool.or_eq_true, Bool.not_eq_true', decide_eq_true_eq, decide_eq_false_iff_not, Bool.and_eq_false_iff, Bool.or_eq_false_iff, Bool.not_eq_false'] at q40)
    refine at_skip ?_
    change AT _ _ _ _
    refine at_seq ?_
    refine at_B [2, 3, 5] [] [] [(1000000, .any), (2, .ptr [0] 0), (3, .ptr [1] 0), (5, .tv (.int .i64 0))] [([1], .row ((celF g).map .tv) false), ([0], .row ((celF f).map .tv) false)] 39 (by kernel_rfl) ?_ ?_
    · exact trivial
    refine at_block ?_
    have hl : f.ks.length = g.ks.length := by (have := q40.2); omega
    have hsm : (decide (f.op = g.op) && decide (f.nm = g.nm) && decide (f.cm = g.cm) && decide (f.n = g.n) && decide (f.ks.length = g.ks.length)) = true := by simp_all
    refine at_loopR (X := Nat) 0 (fun (i : Nat) => [(1000000, .any), (2, .ptr [0] 0), (3, .ptr [1] 0), (5, .tv (.int .i64 ((i : Nat) : Int)))]) (fun (i : Nat) => [([1], .row ((celF g).map .tv) false), ([0], .row ((celF f).map .tv) false)]) (fun (i : Nat) => i ≤ f.ks.length ∧ sameFs (f.ks.drop i) (g.ks.drop i) = sameFs f.ks g.ks) (fun (i : Nat) => f.ks.length - i) 0 ?_ ?_ ?_
    · exact ⟨Nat.zero_le _, rfl⟩
    · exact rn_ok [([1], [1]), ([0], [0])] [] [2, 3, 5] (trivial) (by kernel_rfl)
    · intro i hinv
      obtain ⟨hx1, hx2⟩ := hinv
      refine at_seq ?_
      refine at_B [2, 3, 5, 45] [] [] [(1000000, .any), (2, .ptr [0] 0), (3, .ptr [1] 0), (5, .tv (.int .i64 ((i : Nat) : Int))), (45, .tv (.bool (decide (((i : Nat) : Int) < (((f.ks.map encF).length : Nat) : Int)))))] [([1], .row ((celF g).map .tv) false), ([0], .row ((celF f).map .tv) false)] 5 (by kernel_rfl) ?_ ?_
      · exact trivial
      refine at_cond (b := (decide (((i : Nat) : Int) < (((f.ks.map encF).length : Nat) : Int)))) rfl rfl (fun hc45 => ?_) (fun hc45 => ?_)
      · have q45 := hc45
        (try simp only [List.length_map, Bool.and_eq_true, Bool.or_eq_true, Bool.not_eq_true', decide_eq_true_eq, decide_eq_false_iff_not, Bool.and_eq_false_iff, Bool.or_eq_false_iff, Bool.not_eq_false'] at q45)
        refine at_skip ?_
        change AT _ _ _ _
        refine at_seq ?_
        refine at_block ?_
        refine at_D [0, 1, 0, 7, 15, 0, 32, 0, 224, 480, 1023, 2047] [2, 3, 5, 59] [.std, .std, .std, .eq (.tv (.ptr (celF (f.ks.getD i Fm.z)))), .std, .std, .std, .std, .eq (.tv (.ptr (celF (g.ks.getD i Fm.z)))), .std, .ret (.tv (.bool (sameF (f.ks.getD i Fm.z) (g.ks.getD i Fm.z))))] [(0 ≤ ((i : Nat) : Int) ∧ ((i : Nat) : Int) < ((((f.ks.map encF) : List (List TV)).length : Nat) : Int)), (.tv (.ptr (rowAt (f.ks.map encF) ((i : Nat) : Int))) : AV) = .tv (.ptr (celF (f.ks.getD i Fm.z))), (0 ≤ ((i : Nat) : Int) ∧ ((i : Nat) : Int) < ((((g.ks.map encF) : List (List TV)).length : Nat) : Int)), (.tv (.ptr (rowAt (g.ks.map encF) ((i : Nat) : Int))) : AV) = .tv (.ptr (celF (g.ks.getD i Fm.z))), PureCall Try.prog 39 [agF (f.ks.getD i Fm.z), agF (g.ks.getD i Fm.z)] (.tv (.bool (sameF (f.ks.getD i Fm.z) (g.ks.getD i Fm.z))))] [(1000000, .any), (2, .ptr [0] 0), (3, .ptr [1] 0), (5, .tv (.int .i64 ((i : Nat) : Int))), (59, .tv (.bool (!(sameF (f.ks.getD i Fm.z) (g.ks.getD i Fm.z)))))] [([1], .row ((celF g).map .tv) false), ([0], .row ((celF f).map .tv) false)] 17 (by kernel_rfl) ?_ ?_
        · exact ⟨by (try simp only [List.length_map, List.length_append, List.length_cons, List.length_nil, List.length_set] at *); omega, congrArg (fun c => AV.tv (.ptr c)) (row_F f.ks ((i : Nat) : Int) (by (try simp only [List.length_map, Bool.and_eq_true, Bool.or_eq_true, Bool.not_eq_true', decide_eq_true_eq, decide_eq_false_iff_not, Bool.and_eq_false_iff, Bool.or_eq_false_iff, Bool.not_eq_false', List.length_append, List.length_cons, List.length_nil, List.length_set] at *); omega)), by (try simp only [List.length_map, List.length_append, List.length_cons, List.length_nil, List.length_set] at *); omega, congrArg (fun c => AV.tv (.ptr c)) (row_F g.ks ((i : Nat) : Int) (by (try simp only [List.length_map, Bool.and_eq_true, Bool.or_eq_true, Bool.not_eq_true', decide_eq_true_eq, decide_eq_false_iff_not, Bool.and_eq_false_iff, Bool.or_eq_false_iff, Bool.not_eq_false', List.length_append, List.length_cons, List.length_nil, List.length_set] at *); omega)), (ih _ (getD_mem (by omega)) _), trivial⟩
        refine at_cond (b := (!(sameF (f.ks.getD i Fm.z) (g.ks.getD i Fm.z)))) rfl rfl (fun hc59 => ?_) (fun hc59 => ?_)
        · have q59 := hc59
          (try simp only [List.length_map, Bool.and_eq_true, Bool.or_eq_true, Bool.not_eq_true', decide_eq_true_eq, decide_eq_false_iff_not, Bool.and_eq_false_iff, Bool.or_eq_false_iff, Bool.not_eq_false'] at q59)
          refine at_B [4] [] [] [(1000000, .any), (4, .tv (.bool false))] [([1], .row ((celF g).map .tv) false), ([0], .row ((celF f).map .tv) false)] 18 (by kernel_rfl) ?_ ?_
          · exact trivial
          refine at_ret ?_
          refine fin0 (.inr rfl) (.tv (.bool false)) [([1], .row ((celF g).map .tv) false), ([0], .row ((celF f).map .tv) false)] (.tv (.bool false)) (H2 := [([1], .row ((celF g).map .tv) false), ([0], .row ((celF f).map .tv) false)]) (by kernel_rfl) (by kernel_rfl) ?_
          refine Le.of_eq ?_
          rw [sameF_eq, sameFs_stop (i := i) (by omega) hx2 (by simpa using hc59), Bool.and_false]
        · have q59 := hc59
          (try simp only [List.length_map, Bool.and_eq_true, Bool.or_eq_true, Bool.not_eq_true', decide_eq_true_eq, decide_eq_false_iff_not, Bool.and_eq_false_iff, Bool.or_eq_false_iff, Bool.not_eq_false'] at q59)
          refine at_skip ?_
          change AT _ _ _ _
          refine at_Bl [2, 3, 5] [.std, .eq (.tv (.int .i64 ((i + 1 : Nat) : Int)))] [(.tv (.int .i64 (wr (((i : Nat) : Int) + 1))) : AV) = .tv (.int .i64 ((i + 1 : Nat) : Int))] [(1000000, .any), (2, .ptr [0] 0), (3, .ptr [1] 0), (5, .tv (.int .i64 ((i + 1 : Nat) : Int)))] [([1], .row ((celF g).map .tv) false), ([0], .row ((celF f).map .tv) false)] 20 (by kernel_rfl) ?_ ?_
          · exact ⟨succ_av i (by (try simp only [List.length_map, List.length_append, List.length_cons, List.length_nil, List.length_set] at *); omega), trivial⟩
          refine ⟨rfl, (i + 1), ?_, ?_, ?_⟩
          · (try dsimp only); omega
          · exact ⟨by omega, sameFs_step (by omega) hx2 (by simpa using hc59)⟩
          · exact rn_ok [([1], [1]), ([0], [0])] [] [2, 3, 5] (trivial) (by kernel_rfl)
      · have q45 := hc45
        (try simp only [List.length_map, Bool.and_eq_true, Bool.or_eq_true, Bool.not_eq_true', decide_eq_true_eq, decide_eq_false_iff_not, Bool.and_eq_false_iff, Bool.or_eq_false_iff, Bool.not_eq_false'] at q45)
        refine at_exit ?_
        change AT _ _ _ _
        refine at_B [4] [] [] [(1000000, .any), (4, .tv (.bool true))] [([1], .row ((celF g).map .tv) false), ([0], .row ((celF f).map .tv) false)] 41 (by kernel_rfl) ?_ ?_
        · exact trivial
        refine at_ret ?_
        refine fin0 (.inr rfl) (.tv (.bool true)) [([1], .row ((celF g).map .tv) false), ([0], .row ((celF f).map .tv) false)] (.tv (.bool true)) (H2 := [([1], .row ((celF g).map .tv) false), ([0], .row ((celF f).map .tv) false)]) (by kernel_rfl) (by kernel_rfl) ?_
        refine Le.of_eq ?_
        rw [sameF_eq, hsm, sameFs_end (i := i) (by omega) hx2]; rfl
theorem c24 (r : Ru) (s : Ru)  : PureCall Try.prog 24 [agR r, agR s] (.tv (.bool (sameR r s))) := by
  refine walk0 (fn := Try.f24) [.tmp 4] Try.func24 rfl (by kernel_rfl) rfl (by kernel_rfl) (by kernel_rfl) ?_
  change AT _ _ _ ⟨[(0, agR r), (1, agR s)], [], [], 0⟩
  refine at_B [2, 3] [] [] [(1000000, .any), (2, .ptr [0] 0), (3, .ptr [1] 0)] [([1], .row ((celR s).map .tv) false), ([0], .row ((celR r).map .tv) false)] 3 (by kernel_rfl) ?_ ?_
  · exact trivial
  refine at_B [4] [.std, .std, .std, .std, .std, .std, .std, .std, .std, .std, .std, .std, .std, .std, .std, .std, .std, .std, .std, .std, .std, .std, .std, .std, .std, .std, .std, .std, .std, .std, .std, .std, .std, .std, .std, .std, .std, .std, .ret (.tv (.bool (sameF r.f s.f)))] [((((((decide (r.id = s.id)) && (decide (r.tg = s.tg))) && (decide (r.kd = s.kd))) && (decide (r.a = s.a))) && (decide (r.b = s.b))) = true) → PureCall Try.prog 39 [agF r.f, agF s.f] (.tv (.bool (sameF r.f s.f)))] [(1000000, .any), (4, .tv (.bool (((((((((decide (r.id = s.id)) && (decide (r.tg = s.tg))) && (decide (r.kd = s.kd))) && (decide (r.a = s.a))) && (decide (r.b = s.b))) && (sameF r.f s.f)) && (decide (r.kn = s.kn))) && (r.fin == s.fin)) && (decide (r.lf = s.lf)))))] [([1], .row ((celR s).map .tv) false), ([0], .row ((celR r).map .tv) false)] 65 (by kernel_rfl) ?_ ?_
  · exact ⟨fun hg0 => (c39 r.f s.f), trivial⟩
  refine at_ret ?_
  refine fin0 (.inr rfl) (.tv (.bool (((((((((decide (r.id = s.id)) && (decide (r.tg = s.tg))) && (decide (r.kd = s.kd))) && (decide (r.a = s.a))) && (decide (r.b = s.b))) && (sameF r.f s.f)) && (decide (r.kn = s.kn))) && (r.fin == s.fin)) && (decide (r.lf = s.lf))))) [([1], .row ((celR s).map .tv) false), ([0], .row ((celR r).map .tv) false)] (.tv (.bool (((((((((decide (r.id = s.id)) && (decide (r.tg = s.tg))) && (decide (r.kd = s.kd))) && (decide (r.a = s.a))) && (decide (r.b = s.b))) && (sameF r.f s.f)) && (decide (r.kn = s.kn))) && (r.fin == s.fin)) && (decide (r.lf = s.lf))))) (H2 := [([1], .row ((celR s).map .tv) false), ([0], .row ((celR r).map .tv) false)]) (by kernel_rfl) (by kernel_rfl) ?_
  refine Le.of_eq ?_
  first | rfl | (simp only [*])
theorem c10 (l : (List Ru)) (n : Int)  : PureCall Try.prog 10 [.tv (.sli 13 (l.map celR)), .tv (.int .i64 n)] (.tv (.bool (fewR l n))) := by
  refine walk0 (fn := Try.f10) [.tmp 4] Try.func10 rfl (by kernel_rfl) rfl (by kernel_rfl) (by kernel_rfl) ?_
  change AT _ _ _ ⟨[(0, .tv (.sli 13 (l.map celR))), (1, .tv (.int .i64 n))], [], [], 0⟩
  refine at_len 0 rfl (fun hlen => ?_)
  refine at_B [0, 1] [] [] [(1000000, .any), (0, .tv (.sli 13 (l.map celR))), (1, .tv (.int .i64 n))] [] 1 (by kernel_rfl) ?_ ?_
  · exact trivial
  refine at_seq ?_
  refine at_B [0, 1, 5] [] [] [(1000000, .any), (0, .tv (.sli 13 (l.map celR))), (1, .tv (.int .i64 n)), (5, .tv (.int .i64 0))] [] 2 (by kernel_rfl) ?_ ?_
  · exact trivial
  refine at_block ?_
  refine at_loopR (X := Nat) 0 (fun (i : Nat) => [(1000000, .any), (0, .tv (.sli 13 (l.map celR))), (1, .tv (.int .i64 n)), (5, .tv (.int .i64 ((i : Nat) : Int)))]) (fun (i : Nat) => []) (fun (i : Nat) => i ≤ l.length ∧ (l.drop i).all okR = l.all okR) (fun (i : Nat) => l.length - i) 0 ?_ ?_ ?_
  · exact ⟨Nat.zero_le _, rfl⟩
  · exact rn_ok [] [] [0, 1, 5] (trivial) (by kernel_rfl)
  · intro i hinv
    obtain ⟨hx1, hx2⟩ := hinv
    refine at_seq ?_
    refine at_B [0, 1, 5, 15] [] [] [(1000000, .any), (0, .tv (.sli 13 (l.map celR))), (1, .tv (.int .i64 n)), (5, .tv (.int .i64 ((i : Nat) : Int))), (15, .tv (.bool ((decide (((i : Nat) : Int) < (((l.map celR).length : Nat) : Int))) && (decide ((((l.map celR).length : Nat) : Int) ≤ n)))))] [] 10 (by kernel_rfl) ?_ ?_
    · exact trivial
    refine at_cond (b := ((decide (((i : Nat) : Int) < (((l.map celR).length : Nat) : Int))) && (decide ((((l.map celR).length : Nat) : Int) ≤ n)))) rfl rfl (fun hc15 => ?_) (fun hc15 => ?_)
    · have q15 := hc15
      (try simp only [List.length_map, Bool.and_eq_true, Bool.or_eq_true, Bool.not_eq_true', decide_eq_true_eq, decide_eq_false_iff_not, Bool.and_eq_false_iff, Bool.or_eq_false_iff, Bool.not_eq_false'] at q15)
      refine at_skip ?_
      change AT _ _ _ _
      refine at_seq ?_
      refine at_block ?_
      refine at_B [0, 1, 5, 51] [.std, .std, .eq (.tv (.ptr (celR (l.getD i Ru.z)))), .std, .std, .ret (.tv (.bool (smallF (l.getD i Ru.z).f 250))), .std, .std, .std, .std, .eq (.tv (.ptr (celR (l.getD i Ru.z)))), .std, .std, .std, .std, .std, .std, .std, .std, .eq (.tv (.ptr (celR (l.getD i Ru.z)))), .std, .std, .std, .std, .std, .std, .std, .std, .eq (.tv (.ptr (celR (l.getD i Ru.z))))] [(0 ≤ ((i : Nat) : Int) ∧ ((i : Nat) : Int) < ((((l.map celR) : List (List TV)).length : Nat) : Int)), (.tv (.ptr (rowAt (l.map celR) ((i : Nat) : Int))) : AV) = .tv (.ptr (celR (l.getD i Ru.z))), PureCall Try.prog 27 [agF (l.getD i Ru.z).f, .tv (.int .i64 250)] (.tv (.bool (smallF (l.getD i Ru.z).f 250))), ((!(smallF (l.getD i Ru.z).f 250)) = false) → (0 ≤ ((i : Nat) : Int) ∧ ((i : Nat) : Int) < ((((l.map celR) : List (List TV)).length : Nat) : Int)), ((!(smallF (l.getD i Ru.z).f 250)) = false) → (.tv (.ptr (rowAt (l.map celR) ((i : Nat) : Int))) : AV) = .tv (.ptr (celR (l.getD i Ru.z))), (((!(smallF (l.getD i Ru.z).f 250)) || (decide ((100 : Int) < (((l.getD i Ru.z).id.size : Nat) : Int)))) = false) → (0 ≤ ((i : Nat) : Int) ∧ ((i : Nat) : Int) < ((((l.map celR) : List (List TV)).length : Nat) : Int)), (((!(smallF (l.getD i Ru.z).f 250)) || (decide ((100 : Int) < (((l.getD i Ru.z).id.size : Nat) : Int)))) = false) → (.tv (.ptr (rowAt (l.map celR) ((i : Nat) : Int))) : AV) = .tv (.ptr (celR (l.getD i Ru.z))), ((((!(smallF (l.getD i Ru.z).f 250)) || (decide ((100 : Int) < (((l.getD i Ru.z).id.size : Nat) : Int)))) || (decide ((100 : Int) < (((l.getD i Ru.z).tg.size : Nat) : Int)))) = false) → (0 ≤ ((i : Nat) : Int) ∧ ((i : Nat) : Int) < ((((l.map celR) : List (List TV)).length : Nat) : Int)), ((((!(smallF (l.getD i Ru.z).f 250)) || (decide ((100 : Int) < (((l.getD i Ru.z).id.size : Nat) : Int)))) || (decide ((100 : Int) < (((l.getD i Ru.z).tg.size : Nat) : Int)))) = false) → (.tv (.ptr (rowAt (l.map celR) ((i : Nat) : Int))) : AV) = .tv (.ptr (celR (l.getD i Ru.z)))] [(1000000, .any), (0, .tv (.sli 13 (l.map celR))), (1, .tv (.int .i64 n)), (5, .tv (.int .i64 ((i : Nat) : Int))), (51, .tv (.bool ((((!(smallF (l.getD i Ru.z).f 250)) || (decide ((100 : Int) < (((l.getD i Ru.z).id.size : Nat) : Int)))) || (decide ((100 : Int) < (((l.getD i Ru.z).tg.size : Nat) : Int)))) || (decide ((100 : Int) < (((l.getD i Ru.z).lf.size : Nat) : Int))))))] [] 44 (by kernel_rfl) ?_ ?_
      · exact ⟨by (try simp only [List.length_map, List.length_append, List.length_cons, List.length_nil, List.length_set] at *); omega, congrArg (fun c => AV.tv (.ptr c)) (row_R l ((i : Nat) : Int) (by (try simp only [List.length_map, Bool.and_eq_true, Bool.or_eq_true, Bool.not_eq_true', decide_eq_true_eq, decide_eq_false_iff_not, Bool.and_eq_false_iff, Bool.or_eq_false_iff, Bool.not_eq_false', List.length_append, List.length_cons, List.length_nil, List.length_set] at *); omega)), (c27 (l.getD i Ru.z).f 250), fun hg0 => by (try simp only [List.length_map, Bool.and_eq_true, Bool.or_eq_true, Bool.not_eq_true', decide_eq_true_eq, decide_eq_false_iff_not, Bool.and_eq_false_iff, Bool.or_eq_false_iff, Bool.not_eq_false', List.length_append, List.length_cons, List.length_nil, List.length_set] at *); omega, fun hg0 => congrArg (fun c => AV.tv (.ptr c)) (row_R l ((i : Nat) : Int) (by (try simp only [List.length_map, Bool.and_eq_true, Bool.or_eq_true, Bool.not_eq_true', decide_eq_true_eq, decide_eq_false_iff_not, Bool.and_eq_false_iff, Bool.or_eq_false_iff, Bool.not_eq_false', List.length_append, List.length_cons, List.length_nil, List.length_set] at *); omega)), fun hg0 => by (try simp only [List.length_map, Bool.and_eq_true, Bool.or_eq_true, Bool.not_eq_true', decide_eq_true_eq, decide_eq_false_iff_not, Bool.and_eq_false_iff, Bool.or_eq_false_iff, Bool.not_eq_false', List.length_append, List.length_cons, List.length_nil, List.length_set] at *); omega, fun hg0 => congrArg (fun c => AV.tv (.ptr c)) (row_R l ((i : Nat) : Int) (by (try simp only [List.length_map, Bool.and_eq_true, Bool.or_eq_true, Bool.not_eq_true', decide_eq_true_eq, decide_eq_false_iff_not, Bool.and_eq_false_iff, Bool.or_eq_false_iff, Bool.not_eq_false', List.length_append, List.length_cons, List.length_nil, List.length_set] at *); omega)), fun hg0 => by (try simp only [List.length_map, Bool.and_eq_true, Bool.or_eq_true, Bool.not_eq_true', decide_eq_true_eq, decide_eq_false_iff_not, Bool.and_eq_false_iff, Bool.or_eq_false_iff, Bool.not_eq_false', List.length_append, List.length_cons, List.length_nil, List.length_set] at *); omega, fun hg0 => congrArg (fun c => AV.tv (.ptr c)) (row_R l ((i : Nat) : Int) (by (try simp only [List.length_map, Bool.and_eq_true, Bool.or_eq_true, Bool.not_eq_true', decide_eq_true_eq, decide_eq_false_iff_not, Bool.and_eq_false_iff, Bool.or_eq_false_iff, Bool.not_eq_false', List.length_append, List.length_cons, List.length_nil, List.length_set] at *); omega)), trivial⟩
      refine at_cond (b := ((((!(smallF (l.getD i Ru.z).f 250)) || (decide ((100 : Int) < (((l.getD i Ru.z).id.size : Nat) : Int)))) || (decide ((100 : Int) < (((l.getD i Ru.z).tg.size : Nat) : Int)))) || (decide ((100 : Int) < (((l.getD i Ru.z).lf.size : Nat) : Int))))) rfl rfl (fun hc51 => ?_) (fun hc51 => ?_)
      · have q51 := hc51
        (try simp only [List.length_map, Bool.and_eq_true, Bool.or_eq_true, Bool.not_eq_true', decide_eq_true_eq, decide_eq_false_iff_not, Bool.and_eq_false_iff, Bool.or_eq_false_iff, Bool.not_eq_false'] at q51)
        refine at_B [4] [] [] [(1000000, .any), (4, .tv (.bool false))] [] 45 (by kernel_rfl) ?_ ?_
        · exact trivial
        refine at_ret ?_
        refine fin0 (.inr rfl) (.tv (.bool false)) [] (.tv (.bool false)) (H2 := []) (by kernel_rfl) (by kernel_rfl) ?_
        refine Le.of_eq ?_
        rw [fewR, all_stop (i := i) Ru.z (by omega) hx2 (by rw [okR, hc51]; rfl), Bool.and_false]
      · have q51 := hc51
        (try simp only [List.length_map, Bool.and_eq_true, Bool.or_eq_true, Bool.not_eq_true', decide_eq_true_eq, decide_eq_false_iff_not, Bool.and_eq_false_iff, Bool.or_eq_false_iff, Bool.not_eq_false'] at q51)
        refine at_skip ?_
        change AT _ _ _ _
        refine at_Bl [0, 1, 5] [.std, .eq (.tv (.int .i64 ((i + 1 : Nat) : Int)))] [(.tv (.int .i64 (wr (((i : Nat) : Int) + 1))) : AV) = .tv (.int .i64 ((i + 1 : Nat) : Int))] [(1000000, .any), (0, .tv (.sli 13 (l.map celR))), (1, .tv (.int .i64 n)), (5, .tv (.int .i64 ((i + 1 : Nat) : Int)))] [] 47 (by kernel_rfl) ?_ ?_
        · exact ⟨succ_av i (by (try simp only [List.length_map, List.length_append, List.length_cons, List.length_nil, List.length_set] at *); omega), trivial⟩
        refine ⟨rfl, (i + 1), ?_, ?_, ?_⟩
        · (try dsimp only); omega
        · exact ⟨by omega, all_step Ru.z (by omega) hx2 (by rw [okR, hc51]; rfl)⟩
        · exact rn_ok [] [] [0, 1, 5] (trivial) (by kernel_rfl)
    · have q15 := hc15
      (try simp only [List.length_map, Bool.and_eq_true, Bool.or_eq_true, Bool.not_eq_true', decide_eq_true_eq, decide_eq_false_iff_not, Bool.and_eq_false_iff, Bool.or_eq_false_iff, Bool.not_eq_false'] at q15)
      refine at_exit ?_
      change AT _ _ _ _
      refine at_B [4] [] [] [(1000000, .any), (4, .tv (.bool (decide ((((l.map celR).length : Nat) : Int) ≤ n))))] [] 8 (by kernel_rfl) ?_ ?_
      · exact trivial
      refine at_ret ?_
      refine fin0 (.inr rfl) (.tv (.bool (decide ((((l.map celR).length : Nat) : Int) ≤ n)))) [] (.tv (.bool (decide ((((l.map celR).length : Nat) : Int) ≤ n)))) (H2 := []) (by kernel_rfl) (by kernel_rfl) ?_
      refine Le.of_eq ?_
      simp only [fewR]
      by_cases e : i < l.length
      · have : ¬ ((l.length : Int) ≤ n) := by rcases q15 with q | q <;> omega
        simp [this]
      · rw [all_end (i := i) (by omega) hx2]; simp
theorem c11 (l : (List Sn)) (n : Int)  : PureCall Try.prog 11 [.tv (.sli 7 (l.map celS)), .tv (.int .i64 n)] (.tv (.bool (shortS l n))) := by
  refine walk0 (fn := Try.f11) [.tmp 4] Try.func11 rfl (by kernel_rfl) rfl (by kernel_rfl) (by kernel_rfl) ?_
  change AT _ _ _ ⟨[(0, .tv (.sli 7 (l.map celS))), (1, .tv (.int .i64 n))], [], [], 0⟩
  refine at_len 0 rfl (fun hlen => ?_)
  refine at_B [0, 1] [] [] [(1000000, .any), (0, .tv (.sli 7 (l.map celS))), (1, .tv (.int .i64 n))] [] 1 (by kernel_rfl) ?_ ?_
  · exact trivial
  refine at_seq ?_
  refine at_B [0, 1, 5] [] [] [(1000000, .any), (0, .tv (.sli 7 (l.map celS))), (1, .tv (.int .i64 n)), (5, .tv (.int .i64 0))] [] 2 (by kernel_rfl) ?_ ?_
  · exact trivial
  refine at_block ?_
  refine at_loopR (X := Nat) 0 (fun (i : Nat) => [(1000000, .any), (0, .tv (.sli 7 (l.map celS))), (1, .tv (.int .i64 n)), (5, .tv (.int .i64 ((i : Nat) : Int)))]) (fun (i : Nat) => []) (fun (i : Nat) => i ≤ l.length ∧ (l.drop i).all okS = l.all okS) (fun (i : Nat) => l.length - i) 0 ?_ ?_ ?_
  · exact ⟨Nat.zero_le _, rfl⟩
  · exact rn_ok [] [] [0, 1, 5] (trivial) (by kernel_rfl)
  · intro i hinv
    obtain ⟨hx1, hx2⟩ := hinv
    refine at_seq ?_
    refine at_B [0, 1, 5, 15] [] [] [(1000000, .any), (0, .tv (.sli 7 (l.map celS))), (1, .tv (.int .i64 n)), (5, .tv (.int .i64 ((i : Nat) : Int))), (15, .tv (.bool ((decide (((i : Nat) : Int) < (((l.map celS).length : Nat) : Int))) && (decide ((((l.map celS).length : Nat) : Int) ≤ n)))))] [] 10 (by kernel_rfl) ?_ ?_
    · exact trivial
    refine at_cond (b := ((decide (((i : Nat) : Int) < (((l.map celS).length : Nat) : Int))) && (decide ((((l.map celS).length : Nat) : Int) ≤ n)))) rfl rfl (fun hc15 => ?_) (fun hc15 => ?_)
    · have q15 := hc15
      (try simp only [List.length_map, Bool.and_eq_true, Bool.or_eq_true, Bool.not_eq_true', decide_eq_true_eq, decide_eq_false_iff_not, Bool.and_eq_false_iff, Bool.or_eq_false_iff, Bool.not_eq_false'] at q15)
      refine at_skip ?_
      change AT _ _ _ _
      refine at_seq ?_
      refine at_block ?_
      refine at_B [0, 1, 5, 24] [.std, .std, .eq (.tv (.ptr (celS (l.getD i Sn.z)))), .std, .std, .ret (.tv (.bool (smallF (l.getD i Sn.z).f 250)))] [(0 ≤ ((i : Nat) : Int) ∧ ((i : Nat) : Int) < ((((l.map celS) : List (List TV)).length : Nat) : Int)), (.tv (.ptr (rowAt (l.map celS) ((i : Nat) : Int))) : AV) = .tv (.ptr (celS (l.getD i Sn.z))), PureCall Try.prog 27 [agF (l.getD i Sn.z).f, .tv (.int .i64 250)] (.tv (.bool (smallF (l.getD i Sn.z).f 250)))] [(1000000, .any), (0, .tv (.sli 7 (l.map celS))), (1, .tv (.int .i64 n)), (5, .tv (.int .i64 ((i : Nat) : Int))), (24, .tv (.bool (!(smallF (l.getD i Sn.z).f 250))))] [] 17 (by kernel_rfl) ?_ ?_
      · exact ⟨by (try simp only [List.length_map, List.length_append, List.length_cons, List.length_nil, List.length_set] at *); omega, congrArg (fun c => AV.tv (.ptr c)) (row_S l ((i : Nat) : Int) (by (try simp only [List.length_map, Bool.and_eq_true, Bool.or_eq_true, Bool.not_eq_true', decide_eq_true_eq, decide_eq_false_iff_not, Bool.and_eq_false_iff, Bool.or_eq_false_iff, Bool.not_eq_false', List.length_append, List.length_cons, List.length_nil, List.length_set] at *); omega)), (c27 (l.getD i Sn.z).f 250), trivial⟩
      refine at_cond (b := (!(smallF (l.getD i Sn.z).f 250))) rfl rfl (fun hc24 => ?_) (fun hc24 => ?_)
      · have q24 := hc24
        (try simp only [List.length_map, Bool.and_eq_true, Bool.or_eq_true, Bool.not_eq_true', decide_eq_true_eq, decide_eq_false_iff_not, Bool.and_eq_false_iff, Bool.or_eq_false_iff, Bool.not_eq_false'] at q24)
        refine at_B [4] [] [] [(1000000, .any), (4, .tv (.bool false))] [] 18 (by kernel_rfl) ?_ ?_
        · exact trivial
        refine at_ret ?_
        refine fin0 (.inr rfl) (.tv (.bool false)) [] (.tv (.bool false)) (H2 := []) (by kernel_rfl) (by kernel_rfl) ?_
        refine Le.of_eq ?_
        rw [shortS, all_stop (i := i) Sn.z (by omega) hx2 (by rw [okS]; simpa using hc24), Bool.and_false]
      · have q24 := hc24
        (try simp only [List.length_map, Bool.and_eq_true, Bool.or_eq_true, Bool.not_eq_true', decide_eq_true_eq, decide_eq_false_iff_not, Bool.and_eq_false_iff, Bool.or_eq_false_iff, Bool.not_eq_false'] at q24)
        refine at_skip ?_
        change AT _ _ _ _
        refine at_Bl [0, 1, 5] [.std, .eq (.tv (.int .i64 ((i + 1 : Nat) : Int)))] [(.tv (.int .i64 (wr (((i : Nat) : Int) + 1))) : AV) = .tv (.int .i64 ((i + 1 : Nat) : Int))] [(1000000, .any), (0, .tv (.sli 7 (l.map celS))), (1, .tv (.int .i64 n)), (5, .tv (.int .i64 ((i + 1 : Nat) : Int)))] [] 20 (by kernel_rfl) ?_ ?_
        · exact ⟨succ_av i (by (try simp only [List.length_map, List.length_append, List.length_cons, List.length_nil, List.length_set] at *); omega), trivial⟩
        refine ⟨rfl, (i + 1), ?_, ?_, ?_⟩
        · (try dsimp only); omega
        · exact ⟨by omega, all_step Sn.z (by omega) hx2 (by rw [okS]; simpa using hc24)⟩
        · exact rn_ok [] [] [0, 1, 5] (trivial) (by kernel_rfl)
    · have q15 := hc15
      (try simp only [List.length_map, Bool.and_eq_true, Bool.or_eq_true, Bool.not_eq_true', decide_eq_true_eq, decide_eq_false_iff_not, Bool.and_eq_false_iff, Bool.or_eq_false_iff, Bool.not_eq_false'] at q15)
      refine at_exit ?_
      change AT _ _ _ _
      refine at_B [4] [] [] [(1000000, .any), (4, .tv (.bool (decide ((((l.map celS).length : Nat) : Int) ≤ n))))] [] 8 (by kernel_rfl) ?_ ?_
      · exact trivial
      refine at_ret ?_
      refine fin0 (.inr rfl) (.tv (.bool (decide ((((l.map celS).length : Nat) : Int) ≤ n)))) [] (.tv (.bool (decide ((((l.map celS).length : Nat) : Int) ≤ n)))) (H2 := []) (by kernel_rfl) (by kernel_rfl) ?_
      refine Le.of_eq ?_
      simp only [shortS]
      by_cases e : i < l.length
      · have : ¬ ((l.length : Int) ≤ n) := by rcases q15 with q | q <;> omega
        simp [this]
      · rw [all_end (i := i) (by omega) hx2]; simp
theorem c14 (l : (List Ru)) (m : (List Ru))  : PureCall Try.prog 14 [.tv (.sli 13 (l.map celR)), .tv (.sli 13 (m.map celR))] (.tv (.bool (all2 sameR Ru.z l m))) := by
  refine walk0 (fn := Try.f14) [.tmp 4] Try.func14 rfl (by kernel_rfl) rfl (by kernel_rfl) (by kernel_rfl) ?_
  change AT _ _ _ ⟨[(0, .tv (.sli 13 (l.map celR))), (1, .tv (.sli 13 (m.map celR)))], [], [], 0⟩
  refine at_len 0 rfl (fun hlen => ?_)
  refine at_len 1 rfl (fun hlen2 => ?_)
  refine at_B [0, 1] [] [] [(1000000, .any), (0, .tv (.sli 13 (l.map celR))), (1, .tv (.sli 13 (m.map celR)))] [] 1 (by kernel_rfl) ?_ ?_
  · exact trivial
  refine at_seq ?_
  refine at_B [0, 1, 10] [] [] [(1000000, .any), (0, .tv (.sli 13 (l.map celR))), (1, .tv (.sli 13 (m.map celR))), (10, .tv (.bool (!decide ((((l.map celR).length : Nat) : Int) = (((m.map celR).length : Nat) : Int)))))] [] 6 (by kernel_rfl) ?_ ?_
  · exact trivial
  refine at_cond (b := (!decide ((((l.map celR).length : Nat) : Int) = (((m.map celR).length : Nat) : Int)))) rfl rfl (fun hc10 => ?_) (fun hc10 => ?_)
  · have q10 := hc10
    (try simp only [List.length_map, Bool.and_eq_true, Bool.or_eq_true, Bool.not_eq_true', decide_eq_true_eq, decide_eq_false_iff_not, Bool.and_eq_false_iff, Bool.or_eq_false_iff, Bool.not_eq_false'] at q10)
    refine at_B [4] [] [] [(1000000, .any), (4, .tv (.bool false))] [] 7 (by kernel_rfl) ?_ ?_
    · exact trivial
    refine at_ret ?_
    refine fin0 (.inr rfl) (.tv (.bool false)) [] (.tv (.bool false)) (H2 := []) (by kernel_rfl) (by kernel_rfl) ?_
    refine Le.of_eq ?_
    rw [all2]; simp; omega
  · have q10 := hc10
    (try simp only [List.length_map, Bool.and_eq_true, Bool.or_eq_true, Bool.not_eq_true', decide_eq_true_eq, decide_eq_false_iff_not, Bool.and_eq_false_iff, Bool.or_eq_false_iff, Bool.not_eq_false'] at q10)
    refine at_skip ?_
    change AT _ _ _ _
    refine at_seq ?_
    refine at_B [0, 1, 5] [] [] [(1000000, .any), (0, .tv (.sli 13 (l.map celR))), (1, .tv (.sli 13 (m.map celR))), (5, .tv (.int .i64 0))] [] 7 (by kernel_rfl) ?_ ?_
    · exact trivial
    refine at_block ?_
    have hl : l.length = m.length := by omega
    refine at_loopR (X := Nat) 0 (fun (i : Nat) => [(1000000, .any), (0, .tv (.sli 13 (l.map celR))), (1, .tv (.sli 13 (m.map celR))), (5, .tv (.int .i64 ((i : Nat) : Int)))]) (fun (i : Nat) => []) (fun (i : Nat) => i ≤ l.length ∧ same2 sameR Ru.z (l.drop i) (m.drop i) = same2 sameR Ru.z l m) (fun (i : Nat) => l.length - i) 0 ?_ ?_ ?_
    · exact ⟨Nat.zero_le _, rfl⟩
    · exact rn_ok [] [] [0, 1, 5] (trivial) (by kernel_rfl)
    · intro i hinv
      obtain ⟨hx1, hx2⟩ := hinv
      refine at_seq ?_
      refine at_B [0, 1, 5, 14] [] [] [(1000000, .any), (0, .tv (.sli 13 (l.map celR))), (1, .tv (.sli 13 (m.map celR))), (5, .tv (.int .i64 ((i : Nat) : Int))), (14, .tv (.bool (decide (((i : Nat) : Int) < (((l.map celR).length : Nat) : Int)))))] [] 4 (by kernel_rfl) ?_ ?_
      · exact trivial
      refine at_cond (b := (decide (((i : Nat) : Int) < (((l.map celR).length : Nat) : Int)))) rfl rfl (fun hc14 => ?_) (fun hc14 => ?_)
      · have q14 := hc14
        (try simp only [List.length_map, Bool.and_eq_true, Bool.or_eq_true, Bool.not_eq_true', decide_eq_true_eq, decide_eq_false_iff_not, Bool.and_eq_false_iff, Bool.or_eq_false_iff, Bool.not_eq_false'] at q14)
        refine at_skip ?_
        change AT _ _ _ _
        refine at_seq ?_
        refine at_block ?_
        refine at_D [0, 0, 3, 7, 0, 0, 48, 112, 255, 511] [0, 1, 5, 26] [.std, .std, .eq (.tv (.ptr (celR (l.getD i Ru.z)))), .std, .std, .std, .eq (.tv (.ptr (celR (m.getD i Ru.z)))), .std, .ret (.tv (.bool (sameR (l.getD i Ru.z) (m.getD i Ru.z))))] [(0 ≤ ((i : Nat) : Int) ∧ ((i : Nat) : Int) < ((((l.map celR) : List (List TV)).length : Nat) : Int)), (.tv (.ptr (rowAt (l.map celR) ((i : Nat) : Int))) : AV) = .tv (.ptr (celR (l.getD i Ru.z))), (0 ≤ ((i : Nat) : Int) ∧ ((i : Nat) : Int) < ((((m.map celR) : List (List TV)).length : Nat) : Int)), (.tv (.ptr (rowAt (m.map celR) ((i : Nat) : Int))) : AV) = .tv (.ptr (celR (m.getD i Ru.z))), PureCall Try.prog 24 [agR (l.getD i Ru.z), agR (m.getD i Ru.z)] (.tv (.bool (sameR (l.getD i Ru.z) (m.getD i Ru.z))))] [(1000000, .any), (0, .tv (.sli 13 (l.map celR))), (1, .tv (.sli 13 (m.map celR))), (5, .tv (.int .i64 ((i : Nat) : Int))), (26, .tv (.bool (!(sameR (l.getD i Ru.z) (m.getD i Ru.z)))))] [] 14 (by kernel_rfl) ?_ ?_
        · exact ⟨by (try simp only [List.length_map, List.length_append, List.length_cons, List.length_nil, List.length_set] at *); omega, congrArg (fun c => AV.tv (.ptr c)) (row_R l ((i : Nat) : Int) (by (try simp only [List.length_map, Bool.and_eq_true, Bool.or_eq_true, Bool.not_eq_true', decide_eq_true_eq, decide_eq_false_iff_not, Bool.and_eq_false_iff, Bool.or_eq_false_iff, Bool.not_eq_false', List.length_append, List.length_cons, List.length_nil, List.length_set] at *); omega)), by (try simp only [List.length_map, List.length_append, List.length_cons, List.length_nil, List.length_set] at *); omega, congrArg (fun c => AV.tv (.ptr c)) (row_R m ((i : Nat) : Int) (by (try simp only [List.length_map, Bool.and_eq_true, Bool.or_eq_true, Bool.not_eq_true', decide_eq_true_eq, decide_eq_false_iff_not, Bool.and_eq_false_iff, Bool.or_eq_false_iff, Bool.not_eq_false', List.length_append, List.length_cons, List.length_nil, List.length_set] at *); omega)), (c24 (l.getD i Ru.z) (m.getD i Ru.z)), trivial⟩
        refine at_cond (b := (!(sameR (l.getD i Ru.z) (m.getD i Ru.z)))) rfl rfl (fun hc26 => ?_) (fun hc26 => ?_)
        · have q26 := hc26
          (try simp only [List.length_map, Bool.and_eq_true, Bool.or_eq_true, Bool.not_eq_true', decide_eq_true_eq, decide_eq_false_iff_not, Bool.and_eq_false_iff, Bool.or_eq_false_iff, Bool.not_eq_false'] at q26)
          refine at_B [4] [] [] [(1000000, .any), (4, .tv (.bool false))] [] 15 (by kernel_rfl) ?_ ?_
          · exact trivial
          refine at_ret ?_
          refine fin0 (.inr rfl) (.tv (.bool false)) [] (.tv (.bool false)) (H2 := []) (by kernel_rfl) (by kernel_rfl) ?_
          refine Le.of_eq ?_
          rw [all2, same2_stop (i := i) (by omega) hx2 (by simpa using hc26), Bool.and_false]
        · have q26 := hc26
          (try simp only [List.length_map, Bool.and_eq_true, Bool.or_eq_true, Bool.not_eq_true', decide_eq_true_eq, decide_eq_false_iff_not, Bool.and_eq_false_iff, Bool.or_eq_false_iff, Bool.not_eq_false'] at q26)
          refine at_skip ?_
          change AT _ _ _ _
          refine at_Bl [0, 1, 5] [.std, .eq (.tv (.int .i64 ((i + 1 : Nat) : Int)))] [(.tv (.int .i64 (wr (((i : Nat) : Int) + 1))) : AV) = .tv (.int .i64 ((i + 1 : Nat) : Int))] [(1000000, .any), (0, .tv (.sli 13 (l.map celR))), (1, .tv (.sli 13 (m.map celR))), (5, .tv (.int .i64 ((i + 1 : Nat) : Int)))] [] 17 (by kernel_rfl) ?_ ?_
          · exact ⟨succ_av i (by (try simp only [List.length_map, List.length_append, List.length_cons, List.length_nil, List.length_set] at *); omega), trivial⟩
          refine ⟨rfl, (i + 1), ?_, ?_, ?_⟩
          · (try dsimp only); omega
          · exact ⟨by omega, same2_step (by omega) hx2 (by simpa using hc26)⟩
          · exact rn_ok [] [] [0, 1, 5] (trivial) (by kernel_rfl)
      · have q14 := hc14
        (try simp only [List.length_map, Bool.and_eq_true, Bool.or_eq_true, Bool.not_eq_true', decide_eq_true_eq, decide_eq_false_iff_not, Bool.and_eq_false_iff, Bool.or_eq_false_iff, Bool.not_eq_false'] at q14)
        refine at_exit ?_
        change AT _ _ _ _
        refine at_B [4] [] [] [(1000000, .any), (4, .tv (.bool true))] [] 9 (by kernel_rfl) ?_ ?_
        · exact trivial
        refine at_ret ?_
        refine fin0 (.inr rfl) (.tv (.bool true)) [] (.tv (.bool true)) (H2 := []) (by kernel_rfl) (by kernel_rfl) ?_
        refine Le.of_eq ?_
        rw [all2, same2_end (i := i) (by omega) hx2]; simp [hl]
theorem c17 (l : (List Sn)) (m : (List Sn))  : PureCall Try.prog 17 [.tv (.sli 7 (l.map celS)), .tv (.sli 7 (m.map celS))] (.tv (.bool (all2 sameS Sn.z l m))) := by
  refine walk0 (fn := Try.f17) [.tmp 4] Try.func17 rfl (by kernel_rfl) rfl (by kernel_rfl) (by kernel_rfl) ?_
  change AT _ _ _ ⟨[(0, .tv (.sli 7 (l.map celS))), (1, .tv (.sli 7 (m.map celS)))], [], [], 0⟩
  refine at_len 0 rfl (fun hlen => ?_)
  refine at_len 1 rfl (fun hlen2 => ?_)
  refine at_B [0, 1] [] [] [(1000000, .any), (0, .tv (.sli 7 (l.map celS))), (1, .tv (.sli 7 (m.map celS)))] [] 1 (by kernel_rfl) ?_ ?_
  · exact trivial
  refine at_seq ?_
  refine at_B [0, 1, 10] [] [] [(1000000, .any), (0, .tv (.sli 7 (l.map celS))), (1, .tv (.sli 7 (m.map celS))), (10, .tv (.bool (!decide ((((l.map celS).length : Nat) : Int) = (((m.map celS).length : Nat) : Int)))))] [] 6 (by kernel_rfl) ?_ ?_
  · exact trivial
  refine at_cond (b := (!decide ((((l.map celS).length : Nat) : Int) = (((m.map celS).length : Nat) : Int)))) rfl rfl (fun hc10 => ?_) (fun hc10 => ?_)
  · have q10 := hc10
    (try simp only [List.length_map, Bool.and_eq_true, Bool.or_eq_true, Bool.not_eq_true', decide_eq_true_eq, decide_eq_false_iff_not, Bool.and_eq_false_iff, Bool.or_eq_false_iff, Bool.not_eq_false'] at q10)
    refine at_B [4] [] [] [(1000000, .any), (4, .tv (.bool false))] [] 7 (by kernel_rfl) ?_ ?_
    · exact trivial
    refine at_ret ?_
    refine fin0 (.inr rfl) (.tv (.bool false)) [] (.tv (.bool false)) (H2 := []) (by kernel_rfl) (by kernel_rfl) ?_
    refine Le.of_eq ?_
    rw [all2]; simp; omega
  · have q10 := hc10
    (try simp only [List.length_map, Bool.and_eq_true, Bool.or_eq_true, Bool.not_eq_true', decide_eq_true_eq, decide_eq_false_iff_not, Bool.and_eq_false_iff, Bool.or_eq_false_iff, Bool.not_eq_false'] at q10)
    refine at_skip ?_
    change AT _ _ _ _
    refine at_seq ?_
    refine at_B [0, 1, 5] [] [] [(1000000, .any), (0, .tv (.sli 7 (l.map celS))), (1, .tv (.sli 7 (m.map celS))), (5, .tv (.int .i64 0))] [] 7 (by kernel_rfl) ?_ ?_
    · exact trivial
    refine at_block ?_
    have hl : l.length = m.length := by omega
    refine at_loopR (X := Nat) 0 (fun (i : Nat) => [(1000000, .any), (0, .tv (.sli 7 (l.map celS))), (1, .tv (.sli 7 (m.map celS))), (5, .tv (.int .i64 ((i : Nat) : Int)))]) (fun (i : Nat) => []) (fun (i : Nat) => i ≤ l.length ∧ same2 sameS Sn.z (l.drop i) (m.drop i) = same2 sameS Sn.z l m) (fun (i : Nat) => l.length - i) 0 ?_ ?_ ?_
    · exact ⟨Nat.zero_le _, rfl⟩
    · exact rn_ok [] [] [0, 1, 5] (trivial) (by kernel_rfl)
    · intro i hinv
      obtain ⟨hx1, hx2⟩ := hinv
      refine at_seq ?_
      refine at_B [0, 1, 5, 14] [] [] [(1000000, .any), (0, .tv (.sli 7 (l.map celS))), (1, .tv (.sli 7 (m.map celS))), (5, .tv (.int .i64 ((i : Nat) : Int))), (14, .tv (.bool (decide (((i : Nat) : Int) < (((l.map celS).length : Nat) : Int)))))] [] 4 (by kernel_rfl) ?_ ?_
      · exact trivial
      refine at_cond (b := (decide (((i : Nat) : Int) < (((l.map celS).length : Nat) : Int)))) rfl rfl (fun hc14 => ?_) (fun hc14 => ?_)
      · have q14 := hc14
        (try simp only [List.length_map, Bool.and_eq_true, Bool.or_eq_true, Bool.not_eq_true', decide_eq_true_eq, decide_eq_false_iff_not, Bool.and_eq_false_iff, Bool.or_eq_false_iff, Bool.not_eq_false'] at q14)
        refine at_skip ?_
        change AT _ _ _ _
        refine at_seq ?_
        refine at_block ?_
        refine at_D [0, 0, 3, 7, 15, 0, 0, 96, 224, 480, 1023, 2047, 4095, 4095, 16383, 32767, 65535, 4095, 4095, 397311, 921599, 1970175, 4194303, 8388607, 16777215, 33554431, 33554431, 134217727, 268435455, 536870911, 33554431, 33554431, 3254779903, 7549747199, 16139681791, 34359738367, 68719476735, 137438953471] [0, 1, 5, 54] [.std, .std, .eq (.tv (.ptr (celS (l.getD i Sn.z)))), .std, .std, .std, .std, .eq (.tv (.ptr (celS (m.getD i Sn.z)))), .std, .std, .std, .std, .std, .std, .eq (.tv (.ptr (celS (l.getD i Sn.z)))), .std, .std, .std, .std, .eq (.tv (.ptr (celS (m.getD i Sn.z)))), .std, .std, .std, .std, .std, .std, .std, .eq (.tv (.ptr (celS (l.getD i Sn.z)))), .std, .std, .std, .std, .eq (.tv (.ptr (celS (m.getD i Sn.z)))), .std, .std, .ret (.tv (.bool (sameF (l.getD i Sn.z).f (m.getD i Sn.z).f)))] [(0 ≤ ((i : Nat) : Int) ∧ ((i : Nat) : Int) < ((((l.map celS) : List (List TV)).length : Nat) : Int)), (.tv (.ptr (rowAt (l.map celS) ((i : Nat) : Int))) : AV) = .tv (.ptr (celS (l.getD i Sn.z))), (0 ≤ ((i : Nat) : Int) ∧ ((i : Nat) : Int) < ((((m.map celS) : List (List TV)).length : Nat) : Int)), (.tv (.ptr (rowAt (m.map celS) ((i : Nat) : Int))) : AV) = .tv (.ptr (celS (m.getD i Sn.z))), ((!decide ((l.getD i Sn.z).a = (m.getD i Sn.z).a)) = false) → (0 ≤ ((i : Nat) : Int) ∧ ((i : Nat) : Int) < ((((l.map celS) : List (List TV)).length : Nat) : Int)), ((!decide ((l.getD i Sn.z).a = (m.getD i Sn.z).a)) = false) → (.tv (.ptr (rowAt (l.map celS) ((i : Nat) : Int))) : AV) = .tv (.ptr (celS (l.getD i Sn.z))), ((!decide ((l.getD i Sn.z).a = (m.getD i Sn.z).a)) = false) → (0 ≤ ((i : Nat) : Int) ∧ ((i : Nat) : Int) < ((((m.map celS) : List (List TV)).length : Nat) : Int)), ((!decide ((l.getD i Sn.z).a = (m.getD i Sn.z).a)) = false) → (.tv (.ptr (rowAt (m.map celS) ((i : Nat) : Int))) : AV) = .tv (.ptr (celS (m.getD i Sn.z))), (((!decide ((l.getD i Sn.z).a = (m.getD i Sn.z).a)) || (!decide ((l.getD i Sn.z).b = (m.getD i Sn.z).b))) = false) → (0 ≤ ((i : Nat) : Int) ∧ ((i : Nat) : Int) < ((((l.map celS) : List (List TV)).length : Nat) : Int)), (((!decide ((l.getD i Sn.z).a = (m.getD i Sn.z).a)) || (!decide ((l.getD i Sn.z).b = (m.getD i Sn.z).b))) = false) → (.tv (.ptr (rowAt (l.map celS) ((i : Nat) : Int))) : AV) = .tv (.ptr (celS (l.getD i Sn.z))), (((!decide ((l.getD i Sn.z).a = (m.getD i Sn.z).a)) || (!decide ((l.getD i Sn.z).b = (m.getD i Sn.z).b))) = false) → (0 ≤ ((i : Nat) : Int) ∧ ((i : Nat) : Int) < ((((m.map celS) : List (List TV)).length : Nat) : Int)), (((!decide ((l.getD i Sn.z).a = (m.getD i Sn.z).a)) || (!decide ((l.getD i Sn.z).b = (m.getD i Sn.z).b))) = false) → (.tv (.ptr (rowAt (m.map celS) ((i : Nat) : Int))) : AV) = .tv (.ptr (celS (m.getD i Sn.z))), (((!decide ((l.getD i Sn.z).a = (m.getD i Sn.z).a)) || (!decide ((l.getD i Sn.z).b = (m.getD i Sn.z).b))) = false) → PureCall Try.prog 39 [agF (l.getD i Sn.z).f, agF (m.getD i Sn.z).f] (.tv (.bool (sameF (l.getD i Sn.z).f (m.getD i Sn.z).f)))] [(1000000, .any), (0, .tv (.sli 7 (l.map celS))), (1, .tv (.sli 7 (m.map celS))), (5, .tv (.int .i64 ((i : Nat) : Int))), (54, .tv (.bool (((!decide ((l.getD i Sn.z).a = (m.getD i Sn.z).a)) || (!decide ((l.getD i Sn.z).b = (m.getD i Sn.z).b))) || (!(sameF (l.getD i Sn.z).f (m.getD i Sn.z).f)))))] [] 42 (by kernel_rfl) ?_ ?_
        · exact ⟨by (try simp only [List.length_map, List.length_append, List.length_cons, List.length_nil, List.length_set] at *); omega, congrArg (fun c => AV.tv (.ptr c)) (row_S l ((i : Nat) : Int) (by (try simp only [List.length_map, Bool.and_eq_true, Bool.or_eq_true, Bool.not_eq_true', decide_eq_true_eq, decide_eq_false_iff_not, Bool.and_eq_false_iff, Bool.or_eq_false_iff, Bool.not_eq_false', List.length_append, List.length_cons, List.length_nil, List.length_set] at *); omega)), by (try simp only [List.length_map, List.length_append, List.length_cons, List.length_nil, List.length_set] at *); omega, congrArg (fun c => AV.tv (.ptr c)) (row_S m ((i : Nat) : Int) (by (try simp only [List.length_map, Bool.and_eq_true, Bool.or_eq_true, Bool.not_eq_true', decide_eq_true_eq, decide_eq_false_iff_not, Bool.and_eq_false_iff, Bool.or_eq_false_iff, Bool.not_eq_false', List.length_append, List.length_cons, List.length_nil, List.length_set] at *); omega)), fun hg0 => by (try simp only [List.length_map, Bool.and_eq_true, Bool.or_eq_true, Bool.not_eq_true', decide_eq_true_eq, decide_eq_false_iff_not, Bool.and_eq_false_iff, Bool.or_eq_false_iff, Bool.not_eq_false', List.length_append, List.length_cons, List.length_nil, List.length_set] at *); omega, fun hg0 => congrArg (fun c => AV.tv (.ptr c)) (row_S l ((i : Nat) : Int) (by (try simp only [List.length_map, Bool.and_eq_true, Bool.or_eq_true, Bool.not_eq_true', decide_eq_true_eq, decide_eq_false_iff_not, Bool.and_eq_false_iff, Bool.or_eq_false_iff, Bool.not_eq_false', List.length_append, List.length_cons, List.length_nil, List.length_set] at *); omega)), fun hg0 => by (try simp only [List.length_map, Bool.and_eq_true, Bool.or_eq_true, Bool.not_eq_true', decide_eq_true_eq, decide_eq_false_iff_not, Bool.and_eq_false_iff, Bool.or_eq_false_iff, Bool.not_eq_false', List.length_append, List.length_cons, List.length_nil, List.length_set] at *); omega, fun hg0 => congrArg (fun c => AV.tv (.ptr c)) (row_S m ((i : Nat) : Int) (by (try simp only [List.length_map, Bool.and_eq_true, Bool.or_eq_true, Bool.not_eq_true', decide_eq_true_eq, decide_eq_false_iff_not, Bool.and_eq_false_iff, Bool.or_eq_false_iff, Bool.not_eq_false', List.length_append, List.length_cons, List.length_nil, List.length_set] at *); omega)), fun hg0 => by (try simp only [List.length_map, Bool.and_eq_true, Bool.or_eq_true, Bool.not_eq_true', decide_eq_true_eq, decide_eq_false_iff_not, Bool.and_eq_false_iff, Bool.or_eq_false_iff, Bool.not_eq_false', List.length_append, List.length_cons, List.length_nil, List.length_set] at *); omega, fun hg0 => congrArg (fun c => AV.tv (.ptr c)) (row_S l ((i : Nat) : Int) (by (try simp only [List.length_map, Bool.and_eq_true, Bool.or_eq_true, Bool.not_eq_true', decide_eq_true_eq, decide_eq_false_iff_not, Bool.and_eq_false_iff, Bool.or_eq_false_iff, Bool.not_eq_false', List.length_append, List.length_cons, List.length_nil, List.length_set] at *); omega)), fun hg0 => by (try simp only [List.length_map, Bool.and_eq_true, Bool.or_eq_true, Bool.not_eq_true', decide_eq_true_eq, decide_eq_false_iff_not, Bool.and_eq_false_iff, Bool.or_eq_false_iff, Bool.not_eq_false', List.length_append, List.length_cons, List.length_nil, List.length_set] at *); omega, fun hg0 => congrArg (fun c => AV.tv (.ptr c)) (row_S m ((i : Nat) : Int) (by (try simp only [List.length_map, Bool.and_eq_true, Bool.or_eq_true, Bool.not_eq_true', decide_eq_true_eq, decide_eq_false_iff_not, Bool.and_eq_false_iff, Bool.or_eq_false_iff, Bool.not_eq_false', List.length_append, List.length_cons, List.length_nil, List.length_set] at *); omega)), fun hg0 => (c39 (l.getD i Sn.z).f (m.getD i Sn.z).f), trivial⟩
        refine at_cond (b := (((!decide ((l.getD i Sn.z).a = (m.getD i Sn.z).a)) || (!decide ((l.getD i Sn.z).b = (m.getD i Sn.z).b))) || (!(sameF (l.getD i Sn.z).f (m.getD i Sn.z).f)))) rfl rfl (fun hc54 => ?_) (fun hc54 => ?_)
        · have q54 := hc54
          (try simp only [List.length_map, Bool.and_eq_true, Bool.or_eq_true, Bool.not_eq_true', decide_eq_true_eq, decide_eq_false_iff_not, Bool.and_eq_false_iff, Bool.or_eq_false_iff, Bool.not_eq_false'] at q54)
          refine at_B [4] [] [] [(1000000, .any), (4, .tv (.bool false))] [] 43 (by kernel_rfl) ?_ ?_
          · exact trivial
          refine at_ret ?_
          refine fin0 (.inr rfl) (.tv (.bool false)) [] (.tv (.bool false)) (H2 := []) (by kernel_rfl) (by kernel_rfl) ?_
          refine Le.of_eq ?_
          rw [all2, same2_stop (i := i) (by omega) hx2 (by rw [sameS, hc54]; rfl), Bool.and_false]
        · have q54 := hc54
          (try simp only [List.length_map, Bool.and_eq_true, Bool.or_eq_true, Bool.not_eq_true', decide_eq_true_eq, decide_eq_false_iff_not, Bool.and_eq_false_iff, Bool.or_eq_false_iff, Bool.not_eq_false'] at q54)
          refine at_skip ?_
          change AT _ _ _ _
          refine at_Bl [0, 1, 5] [.std, .eq (.tv (.int .i64 ((i + 1 : Nat) : Int)))] [(.tv (.int .i64 (wr (((i : Nat) : Int) + 1))) : AV) = .tv (.int .i64 ((i + 1 : Nat) : Int))] [(1000000, .any), (0, .tv (.sli 7 (l.map celS))), (1, .tv (.sli 7 (m.map celS))), (5, .tv (.int .i64 ((i + 1 : Nat) : Int)))] [] 45 (by kernel_rfl) ?_ ?_
          · exact ⟨succ_av i (by (try simp only [List.length_map, List.length_append, List.length_cons, List.length_nil, List.length_set] at *); omega), trivial⟩
          refine ⟨rfl, (i + 1), ?_, ?_, ?_⟩
          · (try dsimp only); omega
          · exact ⟨by omega, same2_step (by omega) hx2 (by rw [sameS, hc54]; rfl)⟩
          · exact rn_ok [] [] [0, 1, 5] (trivial) (by kernel_rfl)
      · have q14 := hc14
        (try simp only [List.length_map, Bool.and_eq_true, Bool.or_eq_true, Bool.not_eq_true', decide_eq_true_eq, decide_eq_false_iff_not, Bool.and_eq_false_iff, Bool.or_eq_false_iff, Bool.not_eq_false'] at q14)
        refine at_exit ?_
        change AT _ _ _ _
        refine at_B [4] [] [] [(1000000, .any), (4, .tv (.bool true))] [] 9 (by kernel_rfl) ?_ ?_
        · exact trivial
        refine at_ret ?_
        refine fin0 (.inr rfl) (.tv (.bool true)) [] (.tv (.bool true)) (H2 := []) (by kernel_rfl) (by kernel_rfl) ?_
        refine Le.of_eq ?_
        rw [all2, same2_end (i := i) (by omega) hx2]; simp [hl]
theorem c20 (l : (List Sn)) (n : Int)  : PureCall Try.prog 20 [.tv (.sli 7 (l.map celS)), .tv (.int .i64 n)] (.tup [agF ((onS l n).1), .tv (.bool ((onS l n).2))]) := by
  refine walk0 (fn := Try.f20) [.cell 4 26, .tmp 5] Try.func20 rfl (by kernel_rfl) rfl (by kernel_rfl) (by kernel_rfl) ?_
  change AT _ _ _ ⟨[(0, .tv (.sli 7 (l.map celS))), (1, .tv (.int .i64 n))], [], [], 0⟩
  refine at_len 0 rfl (fun hlen => ?_)
  refine at_B [0, 1, 4] [] [] [(1000000, .any), (0, .tv (.sli 7 (l.map celS))), (1, .tv (.int .i64 n)), (4, .ptr [0] 0)] [([0], .row [.tv (.int .i64 0), .tv (.str ⟨#[]⟩), .tv (.int .i64 0), .tv (.int .i64 0), .tv .nils] false)] 2 (by kernel_rfl) ?_ ?_
  · exact trivial
  refine at_seq ?_
  refine at_B [0, 1, 4, 6] [] [] [(1000000, .any), (0, .tv (.sli 7 (l.map celS))), (1, .tv (.int .i64 n)), (4, .ptr [0] 0), (6, .tv (.int .i64 0))] [([0], .row [.tv (.int .i64 0), .tv (.str ⟨#[]⟩), .tv (.int .i64 0), .tv (.int .i64 0), .tv .nils] false)] 3 (by kernel_rfl) ?_ ?_
  · exact trivial
  refine at_block ?_
  refine at_loopR (X := Nat) 0 (fun (i : Nat) => [(1000000, .any), (0, .tv (.sli 7 (l.map celS))), (1, .tv (.int .i64 n)), (4, .ptr [0] 0), (6, .tv (.int .i64 ((i : Nat) : Int)))]) (fun (i : Nat) => [([0], .row [.tv (.int .i64 0), .tv (.str ⟨#[]⟩), .tv (.int .i64 0), .tv (.int .i64 0), .tv .nils] false)]) (fun (i : Nat) => i ≤ l.length ∧ onS (l.drop i) n = onS l n) (fun (i : Nat) => l.length - i) 0 ?_ ?_ ?_
  · exact ⟨Nat.zero_le _, rfl⟩
  · exact rn_ok [([0], [0])] [] [0, 1, 4, 6] (trivial) (by kernel_rfl)
  · intro i hinv
    obtain ⟨hx1, hx2⟩ := hinv
    refine at_seq ?_
    refine at_B [0, 1, 4, 6, 10] [] [] [(1000000, .any), (0, .tv (.sli 7 (l.map celS))), (1, .tv (.int .i64 n)), (4, .ptr [0] 0), (6, .tv (.int .i64 ((i : Nat) : Int))), (10, .tv (.bool (decide (((i : Nat) : Int) < (((l.map celS).length : Nat) : Int)))))] [([0], .row [.tv (.int .i64 0), .tv (.str ⟨#[]⟩), .tv (.int .i64 0), .tv (.int .i64 0), .tv .nils] false)] 4 (by kernel_rfl) ?_ ?_
    · exact trivial
    refine at_cond (b := (decide (((i : Nat) : Int) < (((l.map celS).length : Nat) : Int)))) rfl rfl (fun hc10 => ?_) (fun hc10 => ?_)
    · have q10 := hc10
      (try simp only [List.length_map, Bool.and_eq_true, Bool.or_eq_true, Bool.not_eq_true', decide_eq_true_eq, decide_eq_false_iff_not, Bool.and_eq_false_iff, Bool.or_eq_false_iff, Bool.not_eq_false'] at q10)
      refine at_skip ?_
      change AT _ _ _ _
      refine at_seq ?_
      refine at_block ?_
      refine at_B [0, 1, 4, 6, 36] [.std, .std, .eq (.tv (.ptr (celS (l.getD i Sn.z)))), .std, .std, .std, .std, .std, .std, .std, .eq (.tv (.ptr (celS (l.getD i Sn.z)))), .std, .std, .std, .std, .std, .std, .std, .eq (.tv (.ptr (celS (l.getD i Sn.z))))] [(0 ≤ ((i : Nat) : Int) ∧ ((i : Nat) : Int) < ((((l.map celS) : List (List TV)).length : Nat) : Int)), (.tv (.ptr (rowAt (l.map celS) ((i : Nat) : Int))) : AV) = .tv (.ptr (celS (l.getD i Sn.z))), ((decide ((l.getD i Sn.z).a ≤ n)) = true) → (0 ≤ ((i : Nat) : Int) ∧ ((i : Nat) : Int) < ((((l.map celS) : List (List TV)).length : Nat) : Int)), ((decide ((l.getD i Sn.z).a ≤ n)) = true) → (.tv (.ptr (rowAt (l.map celS) ((i : Nat) : Int))) : AV) = .tv (.ptr (celS (l.getD i Sn.z))), ((decide ((l.getD i Sn.z).b = (-1))) = false) → ((decide ((l.getD i Sn.z).a ≤ n)) = true) → (0 ≤ ((i : Nat) : Int) ∧ ((i : Nat) : Int) < ((((l.map celS) : List (List TV)).length : Nat) : Int)), ((decide ((l.getD i Sn.z).b = (-1))) = false) → ((decide ((l.getD i Sn.z).a ≤ n)) = true) → (.tv (.ptr (rowAt (l.map celS) ((i : Nat) : Int))) : AV) = .tv (.ptr (celS (l.getD i Sn.z)))] [(1000000, .any), (0, .tv (.sli 7 (l.map celS))), (1, .tv (.int .i64 n)), (4, .ptr [0] 0), (6, .tv (.int .i64 ((i : Nat) : Int))), (36, .tv (.bool ((decide ((l.getD i Sn.z).a ≤ n)) && ((decide ((l.getD i Sn.z).b = (-1))) || (decide (n < (l.getD i Sn.z).b))))))] [([0], .row [.tv (.int .i64 0), .tv (.str ⟨#[]⟩), .tv (.int .i64 0), .tv (.int .i64 0), .tv .nils] false)] 28 (by kernel_rfl) ?_ ?_
      · exact ⟨by (try simp only [List.length_map, List.length_append, List.length_cons, List.length_nil, List.length_set] at *); omega, congrArg (fun c => AV.tv (.ptr c)) (row_S l ((i : Nat) : Int) (by (try simp only [List.length_map, Bool.and_eq_true, Bool.or_eq_true, Bool.not_eq_true', decide_eq_true_eq, decide_eq_false_iff_not, Bool.and_eq_false_iff, Bool.or_eq_false_iff, Bool.not_eq_false', List.length_append, List.length_cons, List.length_nil, List.length_set] at *); omega)), fun hg0 => by (try simp only [List.length_map, Bool.and_eq_true, Bool.or_eq_true, Bool.not_eq_true', decide_eq_true_eq, decide_eq_false_iff_not, Bool.and_eq_false_iff, Bool.or_eq_false_iff, Bool.not_eq_false', List.length_append, List.length_cons, List.length_nil, List.length_set] at *); omega, fun hg0 => congrArg (fun c => AV.tv (.ptr c)) (row_S l ((i : Nat) : Int) (by (try simp only [List.length_map, Bool.and_eq_true, Bool.or_eq_true, Bool.not_eq_true', decide_eq_true_eq, decide_eq_false_iff_not, Bool.and_eq_false_iff, Bool.or_eq_false_iff, Bool.not_eq_false', List.length_append, List.length_cons, List.length_nil, List.length_set] at *); omega)), fun hg0 hg1 => by (try simp only [List.length_map, Bool.and_eq_true, Bool.or_eq_true, Bool.not_eq_true', decide_eq_true_eq, decide_eq_false_iff_not, Bool.and_eq_false_iff, Bool.or_eq_false_iff, Bool.not_eq_false', List.length_append, List.length_cons, List.length_nil, List.length_set] at *); omega, fun hg0 hg1 => congrArg (fun c => AV.tv (.ptr c)) (row_S l ((i : Nat) : Int) (by (try simp only [List.length_map, Bool.and_eq_true, Bool.or_eq_true, Bool.not_eq_true', decide_eq_true_eq, decide_eq_false_iff_not, Bool.and_eq_false_iff, Bool.or_eq_false_iff, Bool.not_eq_false', List.length_append, List.length_cons, List.length_nil, List.length_set] at *); omega)), trivial⟩
      refine at_cond (b := ((decide ((l.getD i Sn.z).a ≤ n)) && ((decide ((l.getD i Sn.z).b = (-1))) || (decide (n < (l.getD i Sn.z).b))))) rfl rfl (fun hc36 => ?_) (fun hc36 => ?_)
      · have q36 := hc36
        (try simp only [List.length_map, Bool.and_eq_true, Bool.or_eq_true, Bool.not_eq_true', decide_eq_true_eq, decide_eq_false_iff_not, Bool.and_eq_false_iff, Bool.or_eq_false_iff, Bool.not_eq_false'] at q36)
        refine at_B [4, 5] [.std, .std, .eq (.tv (.ptr (celS (l.getD i Sn.z))))] [(0 ≤ ((i : Nat) : Int) ∧ ((i : Nat) : Int) < ((((l.map celS) : List (List TV)).length : Nat) : Int)), (.tv (.ptr (rowAt (l.map celS) ((i : Nat) : Int))) : AV) = .tv (.ptr (celS (l.getD i Sn.z)))] [(1000000, .any), (4, .ptr [0] 0), (5, .tv (.bool true))] [([0], .row ((celF (l.getD i Sn.z).f).map .tv) false)] 35 (by kernel_rfl) ?_ ?_
        · exact ⟨by (try simp only [List.length_map, List.length_append, List.length_cons, List.length_nil, List.length_set] at *); omega, congrArg (fun c => AV.tv (.ptr c)) (row_S l ((i : Nat) : Int) (by (try simp only [List.length_map, Bool.and_eq_true, Bool.or_eq_true, Bool.not_eq_true', decide_eq_true_eq, decide_eq_false_iff_not, Bool.and_eq_false_iff, Bool.or_eq_false_iff, Bool.not_eq_false', List.length_append, List.length_cons, List.length_nil, List.length_set] at *); omega)), trivial⟩
        refine at_ret ?_
        refine fin0 (.inr rfl) (.tup [agF (l.getD i Sn.z).f, .tv (.bool true)]) [([0], .row ((celF (l.getD i Sn.z).f).map .tv) false)] (.tup [agF (l.getD i Sn.z).f, .tv (.bool true)]) (H2 := [([0], .row ((celF (l.getD i Sn.z).f).map .tv) false)]) (by kernel_rfl) (by kernel_rfl) ?_
        refine Le.of_eq ?_
        rw [← hx2, drop_get l i Sn.z (by omega), onS, hasS, hc36]; rfl
      · have q36 := hc36
        (try simp only [List.length_map, Bool.and_eq_true, Bool.or_eq_true, Bool.not_eq_true', decide_eq_true_eq, decide_eq_false_iff_not, Bool.and_eq_false_iff, Bool.or_eq_false_iff, Bool.not_eq_false'] at q36)
        refine at_skip ?_
        change AT _ _ _ _
        refine at_Bl [0, 1, 4, 6] [.std, .eq (.tv (.int .i64 ((i + 1 : Nat) : Int)))] [(.tv (.int .i64 (wr (((i : Nat) : Int) + 1))) : AV) = .tv (.int .i64 ((i + 1 : Nat) : Int))] [(1000000, .any), (0, .tv (.sli 7 (l.map celS))), (1, .tv (.int .i64 n)), (4, .ptr [0] 0), (6, .tv (.int .i64 ((i + 1 : Nat) : Int)))] [([0], .row [.tv (.int .i64 0), .tv (.str ⟨#[]⟩), .tv (.int .i64 0), .tv (.int .i64 0), .tv .nils] false)] 31 (by kernel_rfl) ?_ ?_
        · exact ⟨succ_av i (by (try simp only [List.length_map, List.length_append, List.length_cons, List.length_nil, List.length_set] at *); omega), trivial⟩
        refine ⟨rfl, (i + 1), ?_, ?_, ?_⟩
        · (try dsimp only); omega
        · exact ⟨by omega, by rw [← hx2, drop_get l i Sn.z (by omega), onS, hasS, hc36]; rfl⟩
        · exact rn_ok [([0], [0])] [] [0, 1, 4, 6] (trivial) (by kernel_rfl)
    · have q10 := hc10
      (try simp only [List.length_map, Bool.and_eq_true, Bool.or_eq_true, Bool.not_eq_true', decide_eq_true_eq, decide_eq_false_iff_not, Bool.and_eq_false_iff, Bool.or_eq_false_iff, Bool.not_eq_false'] at q10)
      refine at_exit ?_
      change AT _ _ _ _
      refine at_B [4, 5] [] [] [(1000000, .any), (4, .ptr [0] 0), (5, .tv (.bool false))] [([0], .row [.tv (.int .i64 0), .tv (.str ⟨#[]⟩), .tv (.int .i64 0), .tv (.int .i64 0), .tv .nils] false)] 7 (by kernel_rfl) ?_ ?_
      · exact trivial
      refine at_ret ?_
      refine fin0 (.inr rfl) (.tup [.agg [.tv (.int .i64 0), .tv (.str ⟨#[]⟩), .tv (.int .i64 0), .tv (.int .i64 0), .tv .nils], .tv (.bool false)]) [([0], .row [.tv (.int .i64 0), .tv (.str ⟨#[]⟩), .tv (.int .i64 0), .tv (.int .i64 0), .tv .nils] false)] (.tup [.agg [.tv (.int .i64 0), .tv (.str ⟨#[]⟩), .tv (.int .i64 0), .tv (.int .i64 0), .tv .nils], .tv (.bool false)]) (H2 := [([0], .row [.tv (.int .i64 0), .tv (.str ⟨#[]⟩), .tv (.int .i64 0), .tv (.int .i64 0), .tv .nils] false)]) (by kernel_rfl) (by kernel_rfl) ?_
      refine Le.trans (b := .tup [.agg [.tv (.int .i64 0), .tv (.str ⟨#[]⟩), .tv (.int .i64 0), .tv (.int .i64 0), .tv (.sli 5 (([] : List _).map encF))], .tv (.bool false)]) (Le.tup (.cons (Le.agg (.cons (Le.refl _) (.cons (Le.refl _) (.cons (Le.refl _) (.cons (Le.refl _) (.cons (Le.nils 5) .nil)))))) (.cons (Le.refl _) .nil))) (Le.of_eq ?_)
      rw [← hx2, List.drop_of_length_le (by omega)]; rfl
def beforeS (s : Sn) (n : Int) : Sn := (Sn.mk s.a (bif ((decide (s.b = (-1))) || (decide (n < s.b))) then n else s.b) s.f)
theorem c42 (s : Sn) (n : Int)  : PureCall Try.prog 42 [agS s, .tv (.int .i64 n)] (agS (beforeS s n)) := by
  refine walk0 (fn := Try.f42) [.cell 4 54] Try.func42 rfl (by kernel_rfl) rfl (by kernel_rfl) (by kernel_rfl) ?_
  change AT _ _ _ ⟨[(0, agS s), (1, .tv (.int .i64 n))], [], [], 0⟩
  refine at_B [1, 2, 4] [] [] [(1000000, .any), (1, .tv (.int .i64 n)), (2, .ptr [0] 0), (4, .ptr [1] 0)] [([1], .row [.tv (.int .i64 0), .tv (.int .i64 0), .tv (.int .i64 0), .tv (.str ⟨#[]⟩), .tv (.int .i64 0), .tv (.int .i64 0), .tv .nils] false), ([0], .row ((celS s).map .tv) false)] 2 (by kernel_rfl) ?_ ?_
  · exact trivial
  refine at_seq ?_
  refine at_B [1, 2, 4, 13] [] [] [(1000000, .any), (1, .tv (.int .i64 n)), (2, .ptr [0] 0), (4, .ptr [1] 0), (13, .tv (.bool ((decide (s.b = (-1))) || (decide (n < s.b)))))] [([1], .row [.tv (.int .i64 0), .tv (.int .i64 0), .tv (.int .i64 0), .tv (.str ⟨#[]⟩), .tv (.int .i64 0), .tv (.int .i64 0), .tv .nils] false), ([0], .row ((celS s).map .tv) false)] 11 (by kernel_rfl) ?_ ?_
  · exact trivial
  refine at_mergel (p := []) [(1000000, .any), (2, .ptr [0] 0), (4, .ptr [1] 0)] [([1], .row [.tv (.int .i64 0), .tv (.int .i64 0), .tv (.int .i64 0), .tv (.str ⟨#[]⟩), .tv (.int .i64 0), .tv (.int .i64 0), .tv .nils] false), ([0], .row [.tv (.int .i64 s.a), .tv (.int .i64 (bif ((decide (s.b = (-1))) || (decide (n < s.b))) then n else s.b)), .tv (.int .i64 s.f.op), .tv (.str s.f.nm), .tv (.int .i64 s.f.cm), .tv (.int .i64 s.f.n), .tv (.sli 5 (s.f.ks.map encF))] false)] 14 ?_ ?_
  · refine at_cond (b := ((decide (s.b = (-1))) || (decide (n < s.b)))) rfl rfl (fun hc13 => ?_) (fun hc13 => ?_)
    · skip
      refine at_Bl [2, 4] [] [] [(1000000, .any), (2, .ptr [0] 0), (4, .ptr [1] 0)] [([1], .row [.tv (.int .i64 0), .tv (.int .i64 0), .tv (.int .i64 0), .tv (.str ⟨#[]⟩), .tv (.int .i64 0), .tv (.int .i64 0), .tv .nils] false), ([0], .row [.tv (.int .i64 s.a), .tv (.int .i64 n), .tv (.int .i64 s.f.op), .tv (.str s.f.nm), .tv (.int .i64 s.f.cm), .tv (.int .i64 s.f.n), .tv (.sli 5 (s.f.ks.map encF))] false)] 14 (by kernel_rfl) ?_ ?_
      · exact trivial
      exact gh_merge [2, 4] [[1], [0]] (by kernel_rfl) (Eq.trans (b := [([1], .row [.tv (.int .i64 0), .tv (.int .i64 0), .tv (.int .i64 0), .tv (.str ⟨#[]⟩), .tv (.int .i64 0), .tv (.int .i64 0), .tv .nils] false), ([0], .row [.tv (.int .i64 s.a), .tv (.int .i64 n), .tv (.int .i64 s.f.op), .tv (.str s.f.nm), .tv (.int .i64 s.f.cm), .tv (.int .i64 s.f.n), .tv (.sli 5 (s.f.ks.map encF))] false)]) (by kernel_rfl) (by simp only [hc13, cond_true, cond_false]; try rfl)) (by kernel_rfl)
    · skip
      refine at_skip ?_
      exact gh_merge [2, 4] [[1], [0]] (by kernel_rfl) (Eq.trans (b := [([1], .row [.tv (.int .i64 0), .tv (.int .i64 0), .tv (.int .i64 0), .tv (.str ⟨#[]⟩), .tv (.int .i64 0), .tv (.int .i64 0), .tv .nils] false), ([0], .row ((celS s).map .tv) false)]) (by kernel_rfl) (by simp only [hc13, cond_true, cond_false]; try rfl)) (by kernel_rfl)
  change AT _ _ _ _
  refine at_B [4] [] [] [(1000000, .any), (4, .ptr [1] 0)] [([1], .row [.tv (.int .i64 s.a), .tv (.int .i64 (bif ((decide (s.b = (-1))) || (decide (n < s.b))) then n else s.b)), .tv (.int .i64 s.f.op), .tv (.str s.f.nm), .tv (.int .i64 s.f.cm), .tv (.int .i64 s.f.n), .tv (.sli 5 (s.f.ks.map encF))] false), ([0], .row [.tv (.int .i64 s.a), .tv (.int .i64 (bif ((decide (s.b = (-1))) || (decide (n < s.b))) then n else s.b)), .tv (.int .i64 s.f.op), .tv (.str s.f.nm), .tv (.int .i64 s.f.cm), .tv (.int .i64 s.f.n), .tv (.sli 5 (s.f.ks.map encF))] false)] 16 (by kernel_rfl) ?_ ?_
  · exact trivial
  refine at_ret ?_
  refine fin0 (.inr rfl) (.agg [.tv (.int .i64 s.a), .tv (.int .i64 (bif ((decide (s.b = (-1))) || (decide (n < s.b))) then n else s.b)), .tv (.int .i64 s.f.op), .tv (.str s.f.nm), .tv (.int .i64 s.f.cm), .tv (.int .i64 s.f.n), .tv (.sli 5 (s.f.ks.map encF))]) [([1], .row [.tv (.int .i64 s.a), .tv (.int .i64 (bif ((decide (s.b = (-1))) || (decide (n < s.b))) then n else s.b)), .tv (.int .i64 s.f.op), .tv (.str s.f.nm), .tv (.int .i64 s.f.cm), .tv (.int .i64 s.f.n), .tv (.sli 5 (s.f.ks.map encF))] false), ([0], .row [.tv (.int .i64 s.a), .tv (.int .i64 (bif ((decide (s.b = (-1))) || (decide (n < s.b))) then n else s.b)), .tv (.int .i64 s.f.op), .tv (.str s.f.nm), .tv (.int .i64 s.f.cm), .tv (.int .i64 s.f.n), .tv (.sli 5 (s.f.ks.map encF))] false)] (.agg [.tv (.int .i64 s.a), .tv (.int .i64 (bif ((decide (s.b = (-1))) || (decide (n < s.b))) then n else s.b)), .tv (.int .i64 s.f.op), .tv (.str s.f.nm), .tv (.int .i64 s.f.cm), .tv (.int .i64 s.f.n), .tv (.sli 5 (s.f.ks.map encF))]) (H2 := [([1], .row [.tv (.int .i64 s.a), .tv (.int .i64 (bif ((decide (s.b = (-1))) || (decide (n < s.b))) then n else s.b)), .tv (.int .i64 s.f.op), .tv (.str s.f.nm), .tv (.int .i64 s.f.cm), .tv (.int .i64 s.f.n), .tv (.sli 5 (s.f.ks.map encF))] false), ([0], .row [.tv (.int .i64 s.a), .tv (.int .i64 (bif ((decide (s.b = (-1))) || (decide (n < s.b))) then n else s.b)), .tv (.int .i64 s.f.op), .tv (.str s.f.nm), .tv (.int .i64 s.f.cm), .tv (.int .i64 s.f.n), .tv (.sli 5 (s.f.ks.map encF))] false)]) (by kernel_rfl) (by kernel_rfl) ?_
  refine Le.of_eq ?_
  first | rfl | (simp only [beforeS, cond_true, cond_false]; done) | (simp only [beforeS, cond_true, cond_false]; rfl)
def fromS (s : Sn) (n : Int) : Sn := (Sn.mk (mx s.a n) s.b s.f)
theorem c43 (s : Sn) (n : Int)  : PureCall Try.prog 43 [agS s, .tv (.int .i64 n)] (agS (fromS s n)) := by
  refine walk0 (fn := Try.f43) [.cell 4 54] Try.func43 rfl (by kernel_rfl) rfl (by kernel_rfl) (by kernel_rfl) ?_
  change AT _ _ _ ⟨[(0, agS s), (1, .tv (.int .i64 n))], [], [], 0⟩
  refine at_B [1, 2, 4] [] [] [(1000000, .any), (1, .tv (.int .i64 n)), (2, .ptr [0] 0), (4, .ptr [1] 0)] [([1], .row [.tv (.int .i64 0), .tv (.int .i64 0), .tv (.int .i64 0), .tv (.str ⟨#[]⟩), .tv (.int .i64 0), .tv (.int .i64 0), .tv .nils] false), ([0], .row ((celS s).map .tv) false)] 2 (by kernel_rfl) ?_ ?_
  · exact trivial
  refine at_B [2, 4] [] [] [(1000000, .any), (2, .ptr [0] 0), (4, .ptr [1] 0)] [([1], .row [.tv (.int .i64 0), .tv (.int .i64 0), .tv (.int .i64 0), .tv (.str ⟨#[]⟩), .tv (.int .i64 0), .tv (.int .i64 0), .tv .nils] false), ([0], .row [.tv (.int .i64 (mx s.a n)), .tv (.int .i64 s.b), .tv (.int .i64 s.f.op), .tv (.str s.f.nm), .tv (.int .i64 s.f.cm), .tv (.int .i64 s.f.n), .tv (.sli 5 (s.f.ks.map encF))] false)] 8 (by kernel_rfl) ?_ ?_
  · exact trivial
  refine at_B [4] [] [] [(1000000, .any), (4, .ptr [1] 0)] [([1], .row [.tv (.int .i64 (mx s.a n)), .tv (.int .i64 s.b), .tv (.int .i64 s.f.op), .tv (.str s.f.nm), .tv (.int .i64 s.f.cm), .tv (.int .i64 s.f.n), .tv (.sli 5 (s.f.ks.map encF))] false), ([0], .row [.tv (.int .i64 (mx s.a n)), .tv (.int .i64 s.b), .tv (.int .i64 s.f.op), .tv (.str s.f.nm), .tv (.int .i64 s.f.cm), .tv (.int .i64 s.f.n), .tv (.sli 5 (s.f.ks.map encF))] false)] 10 (by kernel_rfl) ?_ ?_
  · exact trivial
  refine at_ret ?_
  refine fin0 (.inr rfl) (.agg [.tv (.int .i64 (mx s.a n)), .tv (.int .i64 s.b), .tv (.int .i64 s.f.op), .tv (.str s.f.nm), .tv (.int .i64 s.f.cm), .tv (.int .i64 s.f.n), .tv (.sli 5 (s.f.ks.map encF))]) [([1], .row [.tv (.int .i64 (mx s.a n)), .tv (.int .i64 s.b), .tv (.int .i64 s.f.op), .tv (.str s.f.nm), .tv (.int .i64 s.f.cm), .tv (.int .i64 s.f.n), .tv (.sli 5 (s.f.ks.map encF))] false), ([0], .row [.tv (.int .i64 (mx s.a n)), .tv (.int .i64 s.b), .tv (.int .i64 s.f.op), .tv (.str s.f.nm), .tv (.int .i64 s.f.cm), .tv (.int .i64 s.f.n), .tv (.sli 5 (s.f.ks.map encF))] false)] (.agg [.tv (.int .i64 (mx s.a n)), .tv (.int .i64 s.b), .tv (.int .i64 s.f.op), .tv (.str s.f.nm), .tv (.int .i64 s.f.cm), .tv (.int .i64 s.f.n), .tv (.sli 5 (s.f.ks.map encF))]) (H2 := [([1], .row [.tv (.int .i64 (mx s.a n)), .tv (.int .i64 s.b), .tv (.int .i64 s.f.op), .tv (.str s.f.nm), .tv (.int .i64 s.f.cm), .tv (.int .i64 s.f.n), .tv (.sli 5 (s.f.ks.map encF))] false), ([0], .row [.tv (.int .i64 (mx s.a n)), .tv (.int .i64 s.b), .tv (.int .i64 s.f.op), .tv (.str s.f.nm), .tv (.int .i64 s.f.cm), .tv (.int .i64 s.f.n), .tv (.sli 5 (s.f.ks.map encF))] false)]) (by kernel_rfl) (by kernel_rfl) ?_
  refine Le.of_eq ?_
  first | rfl | (simp only [fromS, cond_true, cond_false]; done) | (simp only [fromS, cond_true, cond_false]; rfl)
theorem c50 (l : (List Ru)) (id : ByteArray) (kn : Int)  : PureCall Try.prog 50 [.tv (.sli 13 (l.map celR)), .tv (.str id), .tv (.int .i64 kn)] (.tv (.bool (finalR l id kn))) := by
  refine walk0 (fn := Try.f50) [.tmp 6] Try.func50 rfl (by kernel_rfl) rfl (by kernel_rfl) (by kernel_rfl) ?_
  change AT _ _ _ ⟨[(0, .tv (.sli 13 (l.map celR))), (1, .tv (.str id)), (2, .tv (.int .i64 kn))], [], [], 0⟩
  refine at_len 0 rfl (fun hlen => ?_)
  refine at_B [0, 1, 2] [] [] [(1000000, .any), (0, .tv (.sli 13 (l.map celR))), (1, .tv (.str id)), (2, .tv (.int .i64 kn))] [] 1 (by kernel_rfl) ?_ ?_
  · exact trivial
  refine at_seq ?_
  refine at_B [0, 1, 2, 7] [] [] [(1000000, .any), (0, .tv (.sli 13 (l.map celR))), (1, .tv (.str id)), (2, .tv (.int .i64 kn)), (7, .tv (.int .i64 0))] [] 2 (by kernel_rfl) ?_ ?_
  · exact trivial
  refine at_block ?_
  refine at_loopR (X := Nat) 0 (fun (i : Nat) => [(1000000, .any), (0, .tv (.sli 13 (l.map celR))), (1, .tv (.str id)), (2, .tv (.int .i64 kn)), (7, .tv (.int .i64 ((i : Nat) : Int)))]) (fun (i : Nat) => []) (fun (i : Nat) => i ≤ l.length ∧ (l.drop i).any (finP id kn) = l.any (finP id kn)) (fun (i : Nat) => l.length - i) 0 ?_ ?_ ?_
  · exact ⟨Nat.zero_le _, rfl⟩
  · exact rn_ok [] [] [0, 1, 2, 7] (trivial) (by kernel_rfl)
  · intro i hinv
    obtain ⟨hx1, hx2⟩ := hinv
    refine at_seq ?_
    refine at_B [0, 1, 2, 7, 11] [] [] [(1000000, .any), (0, .tv (.sli 13 (l.map celR))), (1, .tv (.str id)), (2, .tv (.int .i64 kn)), (7, .tv (.int .i64 ((i : Nat) : Int))), (11, .tv (.bool (decide (((i : Nat) : Int) < (((l.map celR).length : Nat) : Int)))))] [] 4 (by kernel_rfl) ?_ ?_
    · exact trivial
    refine at_cond (b := (decide (((i : Nat) : Int) < (((l.map celR).length : Nat) : Int)))) rfl rfl (fun hc11 => ?_) (fun hc11 => ?_)
    · have q11 := hc11
      (try simp only [List.length_map, Bool.and_eq_true, Bool.or_eq_true, Bool.not_eq_true', decide_eq_true_eq, decide_eq_false_iff_not, Bool.and_eq_false_iff, Bool.or_eq_false_iff, Bool.not_eq_false'] at q11)
      refine at_skip ?_
      change AT _ _ _ _
      refine at_seq ?_
      refine at_block ?_
      refine at_B [0, 1, 2, 7, 36] [.std, .std, .eq (.tv (.ptr (celR (l.getD i Ru.z)))), .std, .std, .std, .std, .std, .std, .std, .eq (.tv (.ptr (celR (l.getD i Ru.z)))), .std, .std, .std, .std, .std, .std, .eq (.tv (.ptr (celR (l.getD i Ru.z))))] [(0 ≤ ((i : Nat) : Int) ∧ ((i : Nat) : Int) < ((((l.map celR) : List (List TV)).length : Nat) : Int)), (.tv (.ptr (rowAt (l.map celR) ((i : Nat) : Int))) : AV) = .tv (.ptr (celR (l.getD i Ru.z))), ((decide ((l.getD i Ru.z).id = id)) = true) → (0 ≤ ((i : Nat) : Int) ∧ ((i : Nat) : Int) < ((((l.map celR) : List (List TV)).length : Nat) : Int)), ((decide ((l.getD i Ru.z).id = id)) = true) → (.tv (.ptr (rowAt (l.map celR) ((i : Nat) : Int))) : AV) = .tv (.ptr (celR (l.getD i Ru.z))), (((decide ((l.getD i Ru.z).id = id)) && (l.getD i Ru.z).fin) = true) → (0 ≤ ((i : Nat) : Int) ∧ ((i : Nat) : Int) < ((((l.map celR) : List (List TV)).length : Nat) : Int)), (((decide ((l.getD i Ru.z).id = id)) && (l.getD i Ru.z).fin) = true) → (.tv (.ptr (rowAt (l.map celR) ((i : Nat) : Int))) : AV) = .tv (.ptr (celR (l.getD i Ru.z)))] [(1000000, .any), (0, .tv (.sli 13 (l.map celR))), (1, .tv (.str id)), (2, .tv (.int .i64 kn)), (7, .tv (.int .i64 ((i : Nat) : Int))), (36, .tv (.bool (((decide ((l.getD i Ru.z).id = id)) && (l.getD i Ru.z).fin) && (decide ((l.getD i Ru.z).kn ≤ kn)))))] [] 27 (by kernel_rfl) ?_ ?_
      · exact ⟨by (try simp only [List.length_map, List.length_append, List.length_cons, List.length_nil, List.length_set] at *); omega, congrArg (fun c => AV.tv (.ptr c)) (row_R l ((i : Nat) : Int) (by (try simp only [List.length_map, Bool.and_eq_true, Bool.or_eq_true, Bool.not_eq_true', decide_eq_true_eq, decide_eq_false_iff_not, Bool.and_eq_false_iff, Bool.or_eq_false_iff, Bool.not_eq_false', List.length_append, List.length_cons, List.length_nil, List.length_set] at *); omega)), fun hg0 => by (try simp only [List.length_map, Bool.and_eq_true, Bool.or_eq_true, Bool.not_eq_true', decide_eq_true_eq, decide_eq_false_iff_not, Bool.and_eq_false_iff, Bool.or_eq_false_iff, Bool.not_eq_false', List.length_append, List.length_cons, List.length_nil, List.length_set] at *); omega, fun hg0 => congrArg (fun c => AV.tv (.ptr c)) (row_R l ((i : Nat) : Int) (by (try simp only [List.length_map, Bool.and_eq_true, Bool.or_eq_true, Bool.not_eq_true', decide_eq_true_eq, decide_eq_false_iff_not, Bool.and_eq_false_iff, Bool.or_eq_false_iff, Bool.not_eq_false', List.length_append, List.length_cons, List.length_nil, List.length_set] at *); omega)), fun hg0 => by (try simp only [List.length_map, Bool.and_eq_true, Bool.or_eq_true, Bool.not_eq_true', decide_eq_true_eq, decide_eq_false_iff_not, Bool.and_eq_false_iff, Bool.or_eq_false_iff, Bool.not_eq_false', List.length_append, List.length_cons, List.length_nil, List.length_set] at *); omega, fun hg0 => congrArg (fun c => AV.tv (.ptr c)) (row_R l ((i : Nat) : Int) (by (try simp only [List.length_map, Bool.and_eq_true, Bool.or_eq_true, Bool.not_eq_true', decide_eq_true_eq, decide_eq_false_iff_not, Bool.and_eq_false_iff, Bool.or_eq_false_iff, Bool.not_eq_false', List.length_append, List.length_cons, List.length_nil, List.length_set] at *); omega)), trivial⟩
      refine at_cond (b := (((decide ((l.getD i Ru.z).id = id)) && (l.getD i Ru.z).fin) && (decide ((l.getD i Ru.z).kn ≤ kn)))) rfl rfl (fun hc36 => ?_) (fun hc36 => ?_)
      · have q36 := hc36
        (try simp only [List.length_map, Bool.and_eq_true, Bool.or_eq_true, Bool.not_eq_true', decide_eq_true_eq, decide_eq_false_iff_not, Bool.and_eq_false_iff, Bool.or_eq_false_iff, Bool.not_eq_false'] at q36)
        refine at_B [6] [] [] [(1000000, .any), (6, .tv (.bool true))] [] 28 (by kernel_rfl) ?_ ?_
        · exact trivial
        refine at_ret ?_
        refine fin0 (.inr rfl) (.tv (.bool true)) [] (.tv (.bool true)) (H2 := []) (by kernel_rfl) (by kernel_rfl) ?_
        refine Le.of_eq ?_
        rw [finalR, any_stop (i := i) Ru.z (by omega) hx2 (by rw [finP, hc36])]
      · have q36 := hc36
        (try simp only [List.length_map, Bool.and_eq_true, Bool.or_eq_true, Bool.not_eq_true', decide_eq_true_eq, decide_eq_false_iff_not, Bool.and_eq_false_iff, Bool.or_eq_false_iff, Bool.not_eq_false'] at q36)
        refine at_skip ?_
        change AT _ _ _ _
        refine at_Bl [0, 1, 2, 7] [.std, .eq (.tv (.int .i64 ((i + 1 : Nat) : Int)))] [(.tv (.int .i64 (wr (((i : Nat) : Int) + 1))) : AV) = .tv (.int .i64 ((i + 1 : Nat) : Int))] [(1000000, .any), (0, .tv (.sli 13 (l.map celR))), (1, .tv (.str id)), (2, .tv (.int .i64 kn)), (7, .tv (.int .i64 ((i + 1 : Nat) : Int)))] [] 30 (by kernel_rfl) ?_ ?_
        · exact ⟨succ_av i (by (try simp only [List.length_map, List.length_append, List.length_cons, List.length_nil, List.length_set] at *); omega), trivial⟩
        refine ⟨rfl, (i + 1), ?_, ?_, ?_⟩
        · (try dsimp only); omega
        · exact ⟨by omega, any_step Ru.z (by omega) hx2 (by rw [finP, hc36])⟩
        · exact rn_ok [] [] [0, 1, 2, 7] (trivial) (by kernel_rfl)
    · have q11 := hc11
      (try simp only [List.length_map, Bool.and_eq_true, Bool.or_eq_true, Bool.not_eq_true', decide_eq_true_eq, decide_eq_false_iff_not, Bool.and_eq_false_iff, Bool.or_eq_false_iff, Bool.not_eq_false'] at q11)
      refine at_exit ?_
      change AT _ _ _ _
      refine at_B [6] [] [] [(1000000, .any), (6, .tv (.bool false))] [] 4 (by kernel_rfl) ?_ ?_
      · exact trivial
      refine at_ret ?_
      refine fin0 (.inr rfl) (.tv (.bool false)) [] (.tv (.bool false)) (H2 := []) (by kernel_rfl) (by kernel_rfl) ?_
      refine Le.of_eq ?_
      rw [finalR, any_end (i := i) (by omega) hx2]
def validR (r : Ru) : Bool := bif (((((((!(nameOk r.id)) || (!(nameOk r.tg))) || (decide (r.kd < (1 : Int)))) || (decide ((6 : Int) < r.kd))) || (!(decide (0 ≤ r.a) && decide (r.a ≤ 1000000)))) || (!(decide (0 ≤ r.b) && decide (r.b ≤ 1000000)))) || (!(decide (0 ≤ r.kn) && decide (r.kn ≤ 1000000)))) then (false) else (bif ((decide (r.kd = (4 : Int))) && (decide (r.b ≤ r.a))) then (false) else (bif (decide (r.kd = (5 : Int))) then (bif ((decide ((200 : Int) < (szF r.f).1)) || (decide ((20 : Int) < (szF r.f).2))) then (false) else (bif (decide (r.kd = (6 : Int))) then ((nameOk r.lf)) else ((decide (r.lf = ⟨#[]⟩))))) else (bif (decide (r.kd = (6 : Int))) then ((nameOk r.lf)) else ((decide (r.lf = ⟨#[]⟩))))))
theorem c16 (r : Ru)  : PureCall Try.prog 16 [agR r] (.tv (.bool (validR r))) := by
  refine walk0 (fn := Try.f16) [.tmp 2] Try.func16 rfl (by kernel_rfl) rfl (by kernel_rfl) (by kernel_rfl) ?_
  change AT _ _ _ ⟨[(0, agR r)], [], [], 0⟩
  refine at_B [1] [] [] [(1000000, .any), (1, .ptr [0] 0)] [([0], .row ((celR r).map .tv) false)] 2 (by kernel_rfl) ?_ ?_
  · exact trivial
  refine at_seq ?_
  refine at_B [1, 42] [.std, .std, .ret (.tv (.bool (nameOk r.id))), .std, .std, .std, .std, .ret (.tv (.bool (nameOk r.tg))), .std, .std, .std, .std, .std, .std, .std, .std, .std, .std, .std, .std, .std, .std, .std, .ret (.tv (.bool (decide (0 ≤ r.a) && decide (r.a ≤ 1000000)))), .std, .std, .std, .std, .std, .ret (.tv (.bool (decide (0 ≤ r.b) && decide (r.b ≤ 1000000)))), .std, .std, .std, .std, .std, .ret (.tv (.bool (decide (0 ≤ r.kn) && decide (r.kn ≤ 1000000))))] [PureCall Try.prog 37 [.tv (.str r.id)] (.tv (.bool (nameOk r.id))), ((!(nameOk r.id)) = false) → PureCall Try.prog 37 [.tv (.str r.tg)] (.tv (.bool (nameOk r.tg))), (((((!(nameOk r.id)) || (!(nameOk r.tg))) || (decide (r.kd < (1 : Int)))) || (decide ((6 : Int) < r.kd))) = false) → PureCall Try.prog 33 [.tv (.int .i64 r.a)] (.tv (.bool (decide (0 ≤ r.a) && decide (r.a ≤ 1000000)))), ((((((!(nameOk r.id)) || (!(nameOk r.tg))) || (decide (r.kd < (1 : Int)))) || (decide ((6 : Int) < r.kd))) || (!(decide (0 ≤ r.a) && decide (r.a ≤ 1000000)))) = false) → PureCall Try.prog 33 [.tv (.int .i64 r.b)] (.tv (.bool (decide (0 ≤ r.b) && decide (r.b ≤ 1000000)))), (((((((!(nameOk r.id)) || (!(nameOk r.tg))) || (decide (r.kd < (1 : Int)))) || (decide ((6 : Int) < r.kd))) || (!(decide (0 ≤ r.a) && decide (r.a ≤ 1000000)))) || (!(decide (0 ≤ r.b) && decide (r.b ≤ 1000000)))) = false) → PureCall Try.prog 33 [.tv (.int .i64 r.kn)] (.tv (.bool (decide (0 ≤ r.kn) && decide (r.kn ≤ 1000000))))] [(1000000, .any), (1, .ptr [0] 0), (42, .tv (.bool (((((((!(nameOk r.id)) || (!(nameOk r.tg))) || (decide (r.kd < (1 : Int)))) || (decide ((6 : Int) < r.kd))) || (!(decide (0 ≤ r.a) && decide (r.a ≤ 1000000)))) || (!(decide (0 ≤ r.b) && decide (r.b ≤ 1000000)))) || (!(decide (0 ≤ r.kn) && decide (r.kn ≤ 1000000))))))] [([0], .row ((celR r).map .tv) false)] 40 (by kernel_rfl) ?_ ?_
  · exact ⟨(c37 r.id), fun hg0 => (c37 r.tg), fun hg0 => (c33 r.a), fun hg0 => (c33 r.b), fun hg0 => (c33 r.kn), trivial⟩
  refine at_cond (b := (((((((!(nameOk r.id)) || (!(nameOk r.tg))) || (decide (r.kd < (1 : Int)))) || (decide ((6 : Int) < r.kd))) || (!(decide (0 ≤ r.a) && decide (r.a ≤ 1000000)))) || (!(decide (0 ≤ r.b) && decide (r.b ≤ 1000000)))) || (!(decide (0 ≤ r.kn) && decide (r.kn ≤ 1000000))))) rfl rfl (fun hc42 => ?_) (fun hc42 => ?_)
  · have q42 := hc42
    (try simp only [List.length_map, Bool.and_eq_true, Bool.or_eq_true, Bool.not_eq_true', decide_eq_true_eq, decide_eq_false_iff_not, Bool.and_eq_false_iff, Bool.or_eq_false_iff, Bool.not_eq_false'] at q42)
    refine at_B [2] [] [] [(1000000, .any), (2, .tv (.bool false))] [([0], .row ((celR r).map .tv) false)] 41 (by kernel_rfl) ?_ ?_
    · exact trivial
    refine at_ret ?_
    refine fin0 (.inr rfl) (.tv (.bool false)) [([0], .row ((celR r).map .tv) false)] (.tv (.bool false)) (H2 := [([0], .row ((celR r).map .tv) false)]) (by kernel_rfl) (by kernel_rfl) ?_
    refine Le.of_eq ?_
    first | rfl | (simp only [validR, hc42, cond_true, cond_false]; done) | (simp only [validR, hc42, cond_true, cond_false]; rfl)
  · have q42 := hc42
    (try simp only [List.length_map, Bool.and_eq_true, Bool.or_eq_true, Bool.not_eq_true', decide_eq_true_eq, decide_eq_false_iff_not, Bool.and_eq_false_iff, Bool.or_eq_false_iff, Bool.not_eq_false'] at q42)
    refine at_skip ?_
    change AT _ _ _ _
    refine at_seq ?_
    refine at_B [1, 52] [] [] [(1000000, .any), (1, .ptr [0] 0), (52, .tv (.bool ((decide (r.kd = (4 : Int))) && (decide (r.b ≤ r.a)))))] [([0], .row ((celR r).map .tv) false)] 50 (by kernel_rfl) ?_ ?_
    · exact trivial
    refine at_cond (b := ((decide (r.kd = (4 : Int))) && (decide (r.b ≤ r.a)))) rfl rfl (fun hc52 => ?_) (fun hc52 => ?_)
    · have q52 := hc52
      (try simp only [List.length_map, Bool.and_eq_true, Bool.or_eq_true, Bool.not_eq_true', decide_eq_true_eq, decide_eq_false_iff_not, Bool.and_eq_false_iff, Bool.or_eq_false_iff, Bool.not_eq_false'] at q52)
      refine at_B [2] [] [] [(1000000, .any), (2, .tv (.bool false))] [([0], .row ((celR r).map .tv) false)] 51 (by kernel_rfl) ?_ ?_
      · exact trivial
      refine at_ret ?_
      refine fin0 (.inr rfl) (.tv (.bool false)) [([0], .row ((celR r).map .tv) false)] (.tv (.bool false)) (H2 := [([0], .row ((celR r).map .tv) false)]) (by kernel_rfl) (by kernel_rfl) ?_
      refine Le.of_eq ?_
      first | rfl | (simp only [validR, hc42, hc52, cond_true, cond_false]; done) | (simp only [validR, hc42, hc52, cond_true, cond_false]; rfl)
    · have q52 := hc52
      (try simp only [List.length_map, Bool.and_eq_true, Bool.or_eq_true, Bool.not_eq_true', decide_eq_true_eq, decide_eq_false_iff_not, Bool.and_eq_false_iff, Bool.or_eq_false_iff, Bool.not_eq_false'] at q52)
      refine at_skip ?_
      change AT _ _ _ _
      refine at_seq ?_
      refine at_B [1, 55] [] [] [(1000000, .any), (1, .ptr [0] 0), (55, .tv (.bool (decide (r.kd = (5 : Int)))))] [([0], .row ((celR r).map .tv) false)] 53 (by kernel_rfl) ?_ ?_
      · exact trivial
      refine at_cond (b := (decide (r.kd = (5 : Int)))) rfl rfl (fun hc55 => ?_) (fun hc55 => ?_)
      · have q55 := hc55
        (try simp only [List.length_map, Bool.and_eq_true, Bool.or_eq_true, Bool.not_eq_true', decide_eq_true_eq, decide_eq_false_iff_not, Bool.and_eq_false_iff, Bool.or_eq_false_iff, Bool.not_eq_false'] at q55)
        refine at_B [1, 3, 4] [.std, .std, .ret (.tup [.tv (.int .i64 ((szF r.f).1)), .tv (.int .i64 ((szF r.f).2))])] [PureCall Try.prog 38 [agF r.f] (.tup [.tv (.int .i64 ((szF r.f).1)), .tv (.int .i64 ((szF r.f).2))])] [(1000000, .any), (1, .ptr [0] 0), (3, .tv (.int .i64 ((szF r.f).1))), (4, .tv (.int .i64 ((szF r.f).2)))] [([0], .row ((celR r).map .tv) false)] 61 (by kernel_rfl) ?_ ?_
        · exact ⟨(c38 r.f), trivial⟩
        refine at_B [1, 67] [] [] [(1000000, .any), (1, .ptr [0] 0), (67, .tv (.bool ((decide ((200 : Int) < (szF r.f).1)) || (decide ((20 : Int) < (szF r.f).2)))))] [([0], .row ((celR r).map .tv) false)] 67 (by kernel_rfl) ?_ ?_
        · exact trivial
        refine at_cond (b := ((decide ((200 : Int) < (szF r.f).1)) || (decide ((20 : Int) < (szF r.f).2)))) rfl rfl (fun hc67 => ?_) (fun hc67 => ?_)
        · have q67 := hc67
          (try simp only [List.length_map, Bool.and_eq_true, Bool.or_eq_true, Bool.not_eq_true', decide_eq_true_eq, decide_eq_false_iff_not, Bool.and_eq_false_iff, Bool.or_eq_false_iff, Bool.not_eq_false'] at q67)
          refine at_B [2] [] [] [(1000000, .any), (2, .tv (.bool false))] [([0], .row ((celR r).map .tv) false)] 68 (by kernel_rfl) ?_ ?_
          · exact trivial
          refine at_ret ?_
          refine fin0 (.inr rfl) (.tv (.bool false)) [([0], .row ((celR r).map .tv) false)] (.tv (.bool false)) (H2 := [([0], .row ((celR r).map .tv) false)]) (by kernel_rfl) (by kernel_rfl) ?_
          refine Le.of_eq ?_
          first | rfl | (simp only [validR, hc42, hc52, hc55, hc67, cond_true, cond_false]; done) | (simp only [validR, hc42, hc52, hc55, hc67, cond_true, cond_false]; rfl)
        · have q67 := hc67
          (try simp only [List.length_map, Bool.and_eq_true, Bool.or_eq_true, Bool.not_eq_true', decide_eq_true_eq, decide_eq_false_iff_not, Bool.and_eq_false_iff, Bool.or_eq_false_iff, Bool.not_eq_false'] at q67)
          refine at_skip ?_
          change AT _ _ _ _
          refine at_seq ?_
          refine at_B [1, 70] [] [] [(1000000, .any), (1, .ptr [0] 0), (70, .tv (.bool (decide (r.kd = (6 : Int)))))] [([0], .row ((celR r).map .tv) false)] 70 (by kernel_rfl) ?_ ?_
          · exact trivial
          refine at_cond (b := (decide (r.kd = (6 : Int)))) rfl rfl (fun hc70 => ?_) (fun hc70 => ?_)
          · have q70 := hc70
            (try simp only [List.length_map, Bool.and_eq_true, Bool.or_eq_true, Bool.not_eq_true', decide_eq_true_eq, decide_eq_false_iff_not, Bool.and_eq_false_iff, Bool.or_eq_false_iff, Bool.not_eq_false'] at q70)
            refine at_B [2] [.std, .std, .ret (.tv (.bool (nameOk r.lf)))] [PureCall Try.prog 37 [.tv (.str r.lf)] (.tv (.bool (nameOk r.lf)))] [(1000000, .any), (2, .tv (.bool (nameOk r.lf)))] [([0], .row ((celR r).map .tv) false)] 74 (by kernel_rfl) ?_ ?_
            · exact ⟨(c37 r.lf), trivial⟩
            refine at_ret ?_
            refine fin0 (.inr rfl) (.tv (.bool (nameOk r.lf))) [([0], .row ((celR r).map .tv) false)] (.tv (.bool (nameOk r.lf))) (H2 := [([0], .row ((celR r).map .tv) false)]) (by kernel_rfl) (by kernel_rfl) ?_
            refine Le.of_eq ?_
            first | rfl | (simp only [validR, hc42, hc52, hc55, hc67, hc70, cond_true, cond_false]; done) | (simp only [validR, hc42, hc52, hc55, hc67, hc70, cond_true, cond_false]; rfl)
          · have q70 := hc70
            (try simp only [List.length_map, Bool.and_eq_true, Bool.or_eq_true, Bool.not_eq_true', decide_eq_true_eq, decide_eq_false_iff_not, Bool.and_eq_false_iff, Bool.or_eq_false_iff, Bool.not_eq_false'] at q70)
            refine at_skip ?_
            change AT _ _ _ _
            refine at_B [2] [] [] [(1000000, .any), (2, .tv (.bool (decide (r.lf = ⟨#[]⟩))))] [([0], .row ((celR r).map .tv) false)] 74 (by kernel_rfl) ?_ ?_
            · exact trivial
            refine at_ret ?_
            refine fin0 (.inr rfl) (.tv (.bool (decide (r.lf = ⟨#[]⟩)))) [([0], .row ((celR r).map .tv) false)] (.tv (.bool (decide (r.lf = ⟨#[]⟩)))) (H2 := [([0], .row ((celR r).map .tv) false)]) (by kernel_rfl) (by kernel_rfl) ?_
            refine Le.of_eq ?_
            first | rfl | (simp only [validR, hc42, hc52, hc55, hc67, hc70, cond_true, cond_false]; done) | (simp only [validR, hc42, hc52, hc55, hc67, hc70, cond_true, cond_false]; rfl)
      · have q55 := hc55
        (try simp only [List.length_map, Bool.and_eq_true, Bool.or_eq_true, Bool.not_eq_true', decide_eq_true_eq, decide_eq_false_iff_not, Bool.and_eq_false_iff, Bool.or_eq_false_iff, Bool.not_eq_false'] at q55)
        refine at_skip ?_
        change AT _ _ _ _
        refine at_seq ?_
        refine at_B [1, 70] [] [] [(1000000, .any), (1, .ptr [0] 0), (70, .tv (.bool (decide (r.kd = (6 : Int)))))] [([0], .row ((celR r).map .tv) false)] 56 (by kernel_rfl) ?_ ?_
        · exact trivial
        refine at_cond (b := (decide (r.kd = (6 : Int)))) rfl rfl (fun hc70 => ?_) (fun hc70 => ?_)
        · have q70 := hc70
          (try simp only [List.length_map, Bool.and_eq_true, Bool.or_eq_true, Bool.not_eq_true', decide_eq_true_eq, decide_eq_false_iff_not, Bool.and_eq_false_iff, Bool.or_eq_false_iff, Bool.not_eq_false'] at q70)
          refine at_B [2] [.std, .std, .ret (.tv (.bool (nameOk r.lf)))] [PureCall Try.prog 37 [.tv (.str r.lf)] (.tv (.bool (nameOk r.lf)))] [(1000000, .any), (2, .tv (.bool (nameOk r.lf)))] [([0], .row ((celR r).map .tv) false)] 60 (by kernel_rfl) ?_ ?_
          · exact ⟨(c37 r.lf), trivial⟩
          refine at_ret ?_
          refine fin0 (.inr rfl) (.tv (.bool (nameOk r.lf))) [([0], .row ((celR r).map .tv) false)] (.tv (.bool (nameOk r.lf))) (H2 := [([0], .row ((celR r).map .tv) false)]) (by kernel_rfl) (by kernel_rfl) ?_
          refine Le.of_eq ?_
          first | rfl | (simp only [validR, hc42, hc52, hc55, hc70, cond_true, cond_false]; done) | (simp only [validR, hc42, hc52, hc55, hc70, cond_true, cond_false]; rfl)
        · have q70 := hc70
          (try simp only [List.length_map, Bool.and_eq_true, Bool.or_eq_true, Bool.not_eq_true', decide_eq_true_eq, decide_eq_false_iff_not, Bool.and_eq_false_iff, Bool.or_eq_false_iff, Bool.not_eq_false'] at q70)
          refine at_skip ?_
          change AT _ _ _ _
          refine at_B [2] [] [] [(1000000, .any), (2, .tv (.bool (decide (r.lf = ⟨#[]⟩))))] [([0], .row ((celR r).map .tv) false)] 60 (by kernel_rfl) ?_ ?_
          · exact trivial
          refine at_ret ?_
          refine fin0 (.inr rfl) (.tv (.bool (decide (r.lf = ⟨#[]⟩)))) [([0], .row ((celR r).map .tv) false)] (.tv (.bool (decide (r.lf = ⟨#[]⟩)))) (H2 := [([0], .row ((celR r).map .tv) false)]) (by kernel_rfl) (by kernel_rfl) ?_
          refine Le.of_eq ?_
          first | rfl | (simp only [validR, hc42, hc52, hc55, hc70, cond_true, cond_false]; done) | (simp only [validR, hc42, hc52, hc55, hc70, cond_true, cond_false]; rfl)
def takesR (r : Ru) (day : Int) : Bool := bif (decide (r.kd = (1 : Int))) then (true) else (bif (decide (r.kd = (2 : Int))) then ((decide (r.a ≤ day))) else (bif (decide (r.kd = (3 : Int))) then ((decide (r.b ≤ day))) else (bif (decide (r.kd = (4 : Int))) then (((decide (r.a ≤ day)) && (decide (day < r.b)))) else (false))))
theorem c21 (r : Ru) (day : Int)  : PureCall Try.prog 21 [agR r, .tv (.int .i64 day)] (.tv (.bool (takesR r day))) := by
  refine walk0 (fn := Try.f21) [.tmp 4] Try.func21 rfl (by kernel_rfl) rfl (by kernel_rfl) (by kernel_rfl) ?_
  change AT _ _ _ ⟨[(0, agR r), (1, .tv (.int .i64 day))], [], [], 0⟩
  refine at_B [1, 2] [] [] [(1000000, .any), (1, .tv (.int .i64 day)), (2, .ptr [0] 0)] [([0], .row ((celR r).map .tv) false)] 2 (by kernel_rfl) ?_ ?_
  · exact trivial
  refine at_seq ?_
  refine at_B [1, 2, 6] [] [] [(1000000, .any), (1, .tv (.int .i64 day)), (2, .ptr [0] 0), (6, .tv (.int .i64 r.kd))] [([0], .row ((celR r).map .tv) false)] 4 (by kernel_rfl) ?_ ?_
  · exact trivial
  refine at_block ?_
  refine at_B [1, 2, 6, 7] [] [] [(1000000, .any), (1, .tv (.int .i64 day)), (2, .ptr [0] 0), (6, .tv (.int .i64 r.kd)), (7, .tv (.bool (decide (r.kd = (1 : Int)))))] [([0], .row ((celR r).map .tv) false)] 6 (by kernel_rfl) ?_ ?_
  · exact trivial
  refine at_cond (b := (decide (r.kd = (1 : Int)))) rfl rfl (fun hc7 => ?_) (fun hc7 => ?_)
  · have q7 := hc7
    (try simp only [List.length_map, Bool.and_eq_true, Bool.or_eq_true, Bool.not_eq_true', decide_eq_true_eq, decide_eq_false_iff_not, Bool.and_eq_false_iff, Bool.or_eq_false_iff, Bool.not_eq_false'] at q7)
    refine at_B [4] [] [] [(1000000, .any), (4, .tv (.bool true))] [([0], .row ((celR r).map .tv) false)] 7 (by kernel_rfl) ?_ ?_
    · exact trivial
    refine at_ret ?_
    refine fin0 (.inr rfl) (.tv (.bool true)) [([0], .row ((celR r).map .tv) false)] (.tv (.bool true)) (H2 := [([0], .row ((celR r).map .tv) false)]) (by kernel_rfl) (by kernel_rfl) ?_
    refine Le.of_eq ?_
    first | rfl | (simp only [takesR, hc7, cond_true, cond_false]; done) | (simp only [takesR, hc7, cond_true, cond_false]; rfl)
  · have q7 := hc7
    (try simp only [List.length_map, Bool.and_eq_true, Bool.or_eq_true, Bool.not_eq_true', decide_eq_true_eq, decide_eq_false_iff_not, Bool.and_eq_false_iff, Bool.or_eq_false_iff, Bool.not_eq_false'] at q7)
    refine at_B [1, 2, 6, 9] [] [] [(1000000, .any), (1, .tv (.int .i64 day)), (2, .ptr [0] 0), (6, .tv (.int .i64 r.kd)), (9, .tv (.bool (decide (r.kd = (2 : Int)))))] [([0], .row ((celR r).map .tv) false)] 8 (by kernel_rfl) ?_ ?_
    · exact trivial
    refine at_cond (b := (decide (r.kd = (2 : Int)))) rfl rfl (fun hc9 => ?_) (fun hc9 => ?_)
    · have q9 := hc9
      (try simp only [List.length_map, Bool.and_eq_true, Bool.or_eq_true, Bool.not_eq_true', decide_eq_true_eq, decide_eq_false_iff_not, Bool.and_eq_false_iff, Bool.or_eq_false_iff, Bool.not_eq_false'] at q9)
      refine at_B [4] [] [] [(1000000, .any), (4, .tv (.bool (decide (r.a ≤ day))))] [([0], .row ((celR r).map .tv) false)] 13 (by kernel_rfl) ?_ ?_
      · exact trivial
      refine at_ret ?_
      refine fin0 (.inr rfl) (.tv (.bool (decide (r.a ≤ day)))) [([0], .row ((celR r).map .tv) false)] (.tv (.bool (decide (r.a ≤ day)))) (H2 := [([0], .row ((celR r).map .tv) false)]) (by kernel_rfl) (by kernel_rfl) ?_
      refine Le.of_eq ?_
      first | rfl | (simp only [takesR, hc7, hc9, cond_true, cond_false]; done) | (simp only [takesR, hc7, hc9, cond_true, cond_false]; rfl)
    · have q9 := hc9
      (try simp only [List.length_map, Bool.and_eq_true, Bool.or_eq_true, Bool.not_eq_true', decide_eq_true_eq, decide_eq_false_iff_not, Bool.and_eq_false_iff, Bool.or_eq_false_iff, Bool.not_eq_false'] at q9)
      refine at_B [1, 2, 6, 15] [] [] [(1000000, .any), (1, .tv (.int .i64 day)), (2, .ptr [0] 0), (6, .tv (.int .i64 r.kd)), (15, .tv (.bool (decide (r.kd = (3 : Int)))))] [([0], .row ((celR r).map .tv) false)] 10 (by kernel_rfl) ?_ ?_
      · exact trivial
      refine at_cond (b := (decide (r.kd = (3 : Int)))) rfl rfl (fun hc15 => ?_) (fun hc15 => ?_)
      · have q15 := hc15
        (try simp only [List.length_map, Bool.and_eq_true, Bool.or_eq_true, Bool.not_eq_true', decide_eq_true_eq, decide_eq_false_iff_not, Bool.and_eq_false_iff, Bool.or_eq_false_iff, Bool.not_eq_false'] at q15)
        refine at_B [4] [] [] [(1000000, .any), (4, .tv (.bool (decide (r.b ≤ day))))] [([0], .row ((celR r).map .tv) false)] 15 (by kernel_rfl) ?_ ?_
        · exact trivial
        refine at_ret ?_
        refine fin0 (.inr rfl) (.tv (.bool (decide (r.b ≤ day)))) [([0], .row ((celR r).map .tv) false)] (.tv (.bool (decide (r.b ≤ day)))) (H2 := [([0], .row ((celR r).map .tv) false)]) (by kernel_rfl) (by kernel_rfl) ?_
        refine Le.of_eq ?_
        first | rfl | (simp only [takesR, hc7, hc9, hc15, cond_true, cond_false]; done) | (simp only [takesR, hc7, hc9, hc15, cond_true, cond_false]; rfl)
      · have q15 := hc15
        (try simp only [List.length_map, Bool.and_eq_true, Bool.or_eq_true, Bool.not_eq_true', decide_eq_true_eq, decide_eq_false_iff_not, Bool.and_eq_false_iff, Bool.or_eq_false_iff, Bool.not_eq_false'] at q15)
        refine at_B [1, 2, 21] [] [] [(1000000, .any), (1, .tv (.int .i64 day)), (2, .ptr [0] 0), (21, .tv (.bool (decide (r.kd = (4 : Int)))))] [([0], .row ((celR r).map .tv) false)] 12 (by kernel_rfl) ?_ ?_
        · exact trivial
        refine at_cond (b := (decide (r.kd = (4 : Int)))) rfl rfl (fun hc21 => ?_) (fun hc21 => ?_)
        · have q21 := hc21
          (try simp only [List.length_map, Bool.and_eq_true, Bool.or_eq_true, Bool.not_eq_true', decide_eq_true_eq, decide_eq_false_iff_not, Bool.and_eq_false_iff, Bool.or_eq_false_iff, Bool.not_eq_false'] at q21)
          refine at_B [4] [] [] [(1000000, .any), (4, .tv (.bool ((decide (r.a ≤ day)) && (decide (day < r.b)))))] [([0], .row ((celR r).map .tv) false)] 23 (by kernel_rfl) ?_ ?_
          · exact trivial
          refine at_ret ?_
          refine fin0 (.inr rfl) (.tv (.bool ((decide (r.a ≤ day)) && (decide (day < r.b))))) [([0], .row ((celR r).map .tv) false)] (.tv (.bool ((decide (r.a ≤ day)) && (decide (day < r.b))))) (H2 := [([0], .row ((celR r).map .tv) false)]) (by kernel_rfl) (by kernel_rfl) ?_
          refine Le.of_eq ?_
          first | rfl | (simp only [takesR, hc7, hc9, hc15, hc21, cond_true, cond_false]; done) | (simp only [takesR, hc7, hc9, hc15, hc21, cond_true, cond_false]; rfl)
        · have q21 := hc21
          (try simp only [List.length_map, Bool.and_eq_true, Bool.or_eq_true, Bool.not_eq_true', decide_eq_true_eq, decide_eq_false_iff_not, Bool.and_eq_false_iff, Bool.or_eq_false_iff, Bool.not_eq_false'] at q21)
          refine at_skip ?_
          change AT _ _ _ _
          refine at_B [4] [] [] [(1000000, .any), (4, .tv (.bool false))] [([0], .row ((celR r).map .tv) false)] 13 (by kernel_rfl) ?_ ?_
          · exact trivial
          refine at_ret ?_
          refine fin0 (.inr rfl) (.tv (.bool false)) [([0], .row ((celR r).map .tv) false)] (.tv (.bool false)) (H2 := [([0], .row ((celR r).map .tv) false)]) (by kernel_rfl) (by kernel_rfl) ?_
          refine Le.of_eq ?_
          first | rfl | (simp only [takesR, hc7, hc9, hc15, hc21, cond_true, cond_false]; done) | (simp only [takesR, hc7, hc9, hc15, hc21, cond_true, cond_false]; rfl)
def liftR (id : ByteArray) (o : ByteArray) : Ru := (Ru.mk id ⟨#[112]⟩ 6 0 0 (Fm.mk 0 ⟨#[]⟩ 0 0 []) 0 false o)
theorem c25 (id : ByteArray) (o : ByteArray)  : PureCall Try.prog 25 [.tv (.str id), .tv (.str o)] (agR (liftR id o)) := by
  refine walk0 (fn := Try.f25) [.cell 4 28] Try.func25 rfl (by kernel_rfl) rfl (by kernel_rfl) (by kernel_rfl) ?_
  change AT _ _ _ ⟨[(0, .tv (.str id)), (1, .tv (.str o))], [], [], 0⟩
  refine at_B [0, 1, 4] [] [] [(1000000, .any), (0, .tv (.str id)), (1, .tv (.str o)), (4, .ptr [0] 0)] [([0], .row [.tv (.str ⟨#[]⟩), .tv (.str ⟨#[]⟩), .tv (.int .i64 0), .tv (.int .i64 0), .tv (.int .i64 0), .tv (.int .i64 0), .tv (.str ⟨#[]⟩), .tv (.int .i64 0), .tv (.int .i64 0), .tv .nils, .tv (.int .i64 0), .tv (.bool false), .tv (.str ⟨#[]⟩)] false)] 1 (by kernel_rfl) ?_ ?_
  · exact trivial
  refine at_B [4] [] [] [(1000000, .any), (4, .ptr [0] 0)] [([0], .row [.tv (.str id), .tv (.str ⟨#[112]⟩), .tv (.int .i64 6), .tv (.int .i64 0), .tv (.int .i64 0), .tv (.int .i64 0), .tv (.str ⟨#[]⟩), .tv (.int .i64 0), .tv (.int .i64 0), .tv .nils, .tv (.int .i64 0), .tv (.bool false), .tv (.str o)] false)] 5 (by kernel_rfl) ?_ ?_
  · exact trivial
  refine at_ret ?_
  refine fin0 (.inr rfl) (.agg [.tv (.str id), .tv (.str ⟨#[112]⟩), .tv (.int .i64 6), .tv (.int .i64 0), .tv (.int .i64 0), .tv (.int .i64 0), .tv (.str ⟨#[]⟩), .tv (.int .i64 0), .tv (.int .i64 0), .tv .nils, .tv (.int .i64 0), .tv (.bool false), .tv (.str o)]) [([0], .row [.tv (.str id), .tv (.str ⟨#[112]⟩), .tv (.int .i64 6), .tv (.int .i64 0), .tv (.int .i64 0), .tv (.int .i64 0), .tv (.str ⟨#[]⟩), .tv (.int .i64 0), .tv (.int .i64 0), .tv .nils, .tv (.int .i64 0), .tv (.bool false), .tv (.str o)] false)] (.agg [.tv (.str id), .tv (.str ⟨#[112]⟩), .tv (.int .i64 6), .tv (.int .i64 0), .tv (.int .i64 0), .tv (.int .i64 0), .tv (.str ⟨#[]⟩), .tv (.int .i64 0), .tv (.int .i64 0), .tv .nils, .tv (.int .i64 0), .tv (.bool false), .tv (.str o)]) (H2 := [([0], .row [.tv (.str id), .tv (.str ⟨#[112]⟩), .tv (.int .i64 6), .tv (.int .i64 0), .tv (.int .i64 0), .tv (.int .i64 0), .tv (.str ⟨#[]⟩), .tv (.int .i64 0), .tv (.int .i64 0), .tv .nils, .tv (.int .i64 0), .tv (.bool false), .tv (.str o)] false)]) (by kernel_rfl) (by kernel_rfl) ?_
  refine Le.trans (b := .agg [.tv (.str id), .tv (.str ⟨#[112]⟩), .tv (.int .i64 6), .tv (.int .i64 0), .tv (.int .i64 0), .tv (.int .i64 0), .tv (.str ⟨#[]⟩), .tv (.int .i64 0), .tv (.int .i64 0), .tv (.sli 5 (([] : List _).map encF)), .tv (.int .i64 0), .tv (.bool false), .tv (.str o)]) (Le.agg (.cons (Le.refl _) (.cons (Le.refl _) (.cons (Le.refl _) (.cons (Le.refl _) (.cons (Le.refl _) (.cons (Le.refl _) (.cons (Le.refl _) (.cons (Le.refl _) (.cons (Le.refl _) (.cons (Le.nils 5) (.cons (Le.refl _) (.cons (Le.refl _) (.cons (Le.refl _) .nil)))))))))))))) (Le.of_eq ?_)
  first | rfl | (simp only [liftR, cond_true, cond_false]; done) | (simp only [liftR, cond_true, cond_false]; rfl)
def yesF  : Fm := (Fm.mk 1 ⟨#[]⟩ 0 0 [])
theorem c26   : PureCall Try.prog 26 [] (agF yesF) := by
  refine walk0 (fn := Try.f26) [.cell 0 26] Try.func26 rfl (by kernel_rfl) rfl (by kernel_rfl) (by kernel_rfl) ?_
  change AT _ _ _ ⟨[], [], [], 0⟩
  refine at_B [0] [] [] [(1000000, .any), (0, .ptr [0] 0)] [([0], .row [.tv (.int .i64 0), .tv (.str ⟨#[]⟩), .tv (.int .i64 0), .tv (.int .i64 0), .tv .nils] false)] 1 (by kernel_rfl) ?_ ?_
  · exact trivial
  refine at_B [0] [] [] [(1000000, .any), (0, .ptr [0] 0)] [([0], .row [.tv (.int .i64 1), .tv (.str ⟨#[]⟩), .tv (.int .i64 0), .tv (.int .i64 0), .tv .nils] false)] 3 (by kernel_rfl) ?_ ?_
  · exact trivial
  refine at_ret ?_
  refine fin0 (.inr rfl) (.agg [.tv (.int .i64 1), .tv (.str ⟨#[]⟩), .tv (.int .i64 0), .tv (.int .i64 0), .tv .nils]) [([0], .row [.tv (.int .i64 1), .tv (.str ⟨#[]⟩), .tv (.int .i64 0), .tv (.int .i64 0), .tv .nils] false)] (.agg [.tv (.int .i64 1), .tv (.str ⟨#[]⟩), .tv (.int .i64 0), .tv (.int .i64 0), .tv .nils]) (H2 := [([0], .row [.tv (.int .i64 1), .tv (.str ⟨#[]⟩), .tv (.int .i64 0), .tv (.int .i64 0), .tv .nils] false)]) (by kernel_rfl) (by kernel_rfl) ?_
  refine Le.trans (b := .agg [.tv (.int .i64 1), .tv (.str ⟨#[]⟩), .tv (.int .i64 0), .tv (.int .i64 0), .tv (.sli 5 (([] : List _).map encF))]) (Le.agg (.cons (Le.refl _) (.cons (Le.refl _) (.cons (Le.refl _) (.cons (Le.refl _) (.cons (Le.nils 5) .nil)))))) (Le.of_eq ?_)
  first | rfl | (simp only [yesF, cond_true, cond_false]; done) | (simp only [yesF, cond_true, cond_false]; rfl)
end Go.Proofs.Ythmimpiegnnmdaa
