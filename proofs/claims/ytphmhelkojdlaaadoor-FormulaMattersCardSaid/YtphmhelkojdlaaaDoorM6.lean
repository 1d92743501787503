/- Part M6 of the proof. -/
import Derived.Test.YtphmhelkojdlaaaDoorM5
namespace Go.Proofs.YtphmhelkojdlaaaDoor
open Go.RowKit
set_option linter.unusedSimpArgs false
set_option linter.unusedVariables false
section
variable {d : Dm} {c : List Int} {l : List ByteArray} {g : Fm}
theorem formed_cm (h : formedR g = true) (ho : g.op = 3) : 1 ≤ g.cm ∧ g.cm ≤ 6 := by
  unfold formedR at h
  rw [ho] at h
  simp at h
  omega
theorem cmp_PR {a how b : Int} (h : 1 ≤ how ∧ how ≤ 6) : cmpP a how b = cmpR a how b := by
  obtain ⟨h1, h2⟩ := h
  have : how = 1 ∨ how = 2 ∨ how = 3 ∨ how = 4 ∨ how = 5 ∨ how = 6 := by omega
  unfold cmpP cmpR cmpI
  by_cases e1 : a < b
  · have e2 : ¬ b < a := by omega
    have e3 : ¬ a = b := by omega
    have e4 : a ≤ b := by omega
    have e5 : ¬ b ≤ a := by omega
    rcases this with rfl | rfl | rfl | rfl | rfl | rfl <;> simp [e1, e2, e3, e4, e5]
  · by_cases e2 : b < a
    · have e3 : ¬ a = b := by omega
      have e4 : ¬ a ≤ b := by omega
      have e5 : b ≤ a := by omega
      rcases this with rfl | rfl | rfl | rfl | rfl | rfl <;> simp [e1, e2, e3, e4, e5]
    · have e3 : a = b := by omega
      subst e3
      rcases this with rfl | rfl | rfl | rfl | rfl | rfl <;> simp
theorem hold_3 (h : decide (g.op = 3) = true) (hf : formedR g = true) : valF d c l g = cmpP (c.getD (idxF (fcN g.nm) d.fs 0).toNat 0) g.cm g.n := by
  have ho := of_decide_eq_true h
  rw [valF_eq, cmp_PR (formed_cm hf ho), ho]; rfl
theorem hold_4 (h : decide (g.op = 4) = true) : valF d c l g = List.any l (eqS g.nm) := by
  have ho := of_decide_eq_true h
  rw [valF_eq, anySR, ho]; rfl
theorem hold_5 (h : decide (g.op = 5) = true) (hf : formedR g = true) : valF d c l g = !valF d c l (g.ks.getD 0 Fm.z) := by
  have ho := of_decide_eq_true h
  have hk := val_kid hf ho
  rw [valF_eq, valHd_get (by omega), ho]; rfl
theorem all_any (ks : List Fm) : valAll d c l ks = !ks.any fun k => !valF d c l k := by
  induction ks with
  | nil => rfl
  | cons k r ih => rw [valAll, List.any_cons, ih]; cases valF d c l k <;> simp
theorem any_any (ks : List Fm) : valAny d c l ks = ks.any fun k => valF d c l k := by
  induction ks with
  | nil => rfl
  | cons k r ih => rw [valAny, List.any_cons, ih]
theorem hold_6 (h : decide (g.op = 6) = true) : valF d c l g = !decide (0 ≤ idxF (fun k => !valF d c l k) g.ks 0) := by
  have ho := of_decide_eq_true h
  rw [valF_eq, idx_any, ← all_any, ho]; rfl
theorem hold_7 (h : decide (g.op = 7) = true) : valF d c l g = decide (0 ≤ idxF (fun k => valF d c l k) g.ks 0) := by
  have ho := of_decide_eq_true h
  rw [valF_eq, idx_any, ← any_any, ho]; rfl
theorem formed_op (h : formedR g = true) : (g.op = 1 ∨ g.op = 2) ∧ g.ks = [] ∨ (g.op = 3 ∨ g.op = 4 ∨ g.op = 5 ∨ g.op = 6 ∨ g.op = 7) := by
  unfold formedR at h
  by_cases o1 : g.op = 1
  · rw [o1] at h; simp at h; exact .inl ⟨.inl o1, h.2⟩
  by_cases o2 : g.op = 2
  · rw [o2] at h; simp at h; exact .inl ⟨.inr o2, h.2⟩
  by_cases o3 : g.op = 3
  · exact .inr (.inl o3)
  by_cases o4 : g.op = 4
  · exact .inr (.inr (.inl o4))
  by_cases o5 : g.op = 5
  · exact .inr (.inr (.inr (.inl o5)))
  by_cases o6 : g.op = 6
  · exact .inr (.inr (.inr (.inr (.inl o6))))
  by_cases o7 : g.op = 7
  · exact .inr (.inr (.inr (.inr (.inr o7))))
  simp [o1, o2, o3, o4, o5, o6, o7] at h
theorem hold_0 (hf : formedR g = true) (h3 : decide (g.op = 3) = false) (h4 : decide (g.op = 4) = false) (h5 : decide (g.op = 5) = false) (h6 : decide (g.op = 6) = false) (h7 : decide (g.op = 7) = false) : valF d c l g = decide (g.op = 1) := by
  simp only [decide_eq_false_iff_not] at h3 h4 h5 h6 h7
  rcases formed_op hf with ⟨h | h, hk⟩ | h
  · rw [valF_eq, h]; rfl
  · rw [valF_eq, h, hk]; rfl
  · omega
def holdP (f : Fm) (d : Dm) (c : List Int) (l : List ByteArray) : Bool := (decide (checkA f d = 0) && fitsD d c) && valF d c l f
theorem holdP_f {f : Fm} (h : ((!decide (checkA f d = (0 : Int))) || (!(fitsD d c))) = true) : holdP f d c l = false := by
  unfold holdP
  cases h1 : decide (checkA f d = 0) <;> cases h2 : fitsD d c <;> rw [h1, h2] at h <;> first | rfl | cases h
theorem holdP_t {f : Fm} (h : ((!decide (checkA f d = (0 : Int))) || (!(fitsD d c))) = false) : holdP f d c l = valF d c l f := by
  unfold holdP
  cases h1 : decide (checkA f d = 0) <;> cases h2 : fitsD d c <;> rw [h1, h2] at h <;> first | rfl | cases h
theorem checkA_zero {f : Fm} (h : checkA f d = 0) : largeR f = false ∧ errF (oneR d [] true) f = 0 := by
  unfold checkA at h
  cases hl : largeR f with
  | true => rw [hl] at h; cases h
  | false => rw [hl] at h; exact ⟨rfl, h⟩
theorem fitsD_len (h : fitsD d c = true) : c.length = d.fs.length := by
  unfold fitsD at h
  by_cases e : (c.length : Int) = (d.fs.length : Int)
  · omega
  · rw [decide_eq_false e] at h; cases hv : validD d <;> rw [hv] at h <;> cases h
theorem holdP_hyp {f : Fm} (h : ((!decide (checkA f d = (0 : Int))) || (!(fitsD d c))) = false) : errF (oneR d [] true) f = 0 ∧ c.length = d.fs.length := by
  rw [Bool.or_eq_false_iff, Bool.not_eq_false', Bool.not_eq_false', decide_eq_true_eq] at h
  exact ⟨(checkA_zero h.1).2, fitsD_len h.2⟩
end
end Go.Proofs.YtphmhelkojdlaaaDoor
namespace Go.Proofs.YtphmhelkojdlaaaDoor
open Go.RowKit
set_option maxRecDepth 10000
set_option linter.unusedSimpArgs false
set_option linter.unusedVariables false
noncomputable abbrev b55_1 : Id × AO := ([3], .row [.fn (.func 55) [.ptr [0] 0, .ptr [1] 0, .ptr [2] 0, .ptr [3] 0]] false)
noncomputable abbrev b55_2 (l : (List ByteArray)) : Id × AO := ([2], .row [.tv (.sli 1 (l.map encStr))] false)
noncomputable abbrev b55_3 (c : (List Int)) : Id × AO := ([0], .row [.tv (.sli 1 (c.map encI))] false)
noncomputable abbrev b55_4 (g : Fm) : Id × AO := ([0, 50], .row ((celF g).map .tv) false)
noncomputable abbrev b55_5 (g : Fm) (i : Nat) : Id × AO := ([0, 8, 4, 3, 15, 50], .row ((celF (g.ks.getD i Fm.z)).map .tv) false)
noncomputable abbrev b55_6 (g : Fm) (c : (List Int)) (d : Dm) (l : (List ByteArray)) : Hp := [(b55_4 g), (b55_3 c), ([1], .row ((celD d).map .tv) false), (b55_2 l), b55_1]
noncomputable abbrev b55_7 (c : (List Int)) (d : Dm) (l : (List ByteArray)) : Hp := [(b55_3 c), ([1], .row ((celD d).map .tv) false), (b55_2 l), b55_1]
noncomputable abbrev b55_8 (g : Fm) (i : Nat) (c : (List Int)) (d : Dm) (l : (List ByteArray)) : Hp := [(b55_5 g i), (b55_4 g), (b55_3 c), ([1], .row ((celD d).map .tv) false), (b55_2 l), b55_1]
theorem c55 : ∀ (g : Fm) (d : Dm) (c : (List Int)) (l : (List ByteArray)), (errF (oneR d [] true) g = 0) → (c.length = d.fs.length) → StabCall Tryd.prog 55 [agF g, .ptr [0] 0, .ptr [1] 0, .ptr [2] 0, .ptr [3] 0] (b55_7 c d l) (.tv (.bool (valF d c l g))) := by
  refine Fm.ind (fun g ih => ?_)
  intro d c l he hc
  have hz := errF_zero he
  have ho := one_zero hz.1
  refine stab_mv (args := [agF g, .ptr [0] 0, .ptr [1] 0, .ptr [2] 0, .ptr [3] 0]) (H := (b55_7 c d l)) (H2 := (b55_7 c d l)) (q := [50]) [([0], [0]), ([1], [1]), ([2], [2]), ([3], [3])] [([0], [0]), ([1], [1]), ([2], [2]), ([3], [3])] [] [] ?_ (by kernel_rfl) (by kernel_rfl) (trivial) (by kernel_rfl) (by kernel_rfl) (trivial)
  refine call_in (fn := Tryd.f55) [.tmp 6] Tryd.func55 rfl (by kernel_rfl) rfl ?_
  change AT _ _ _ ⟨[(0, agF g), (1, .ptr [0] 0), (2, .ptr [1] 0), (3, .ptr [2] 0), (4, .ptr [3] 0)], (b55_7 c d l), [50], 0⟩
  refine at_B [1, 2, 3, 4, 5] [] [] [(1000000, .any), (1, .ptr [0] 0), (2, .ptr [1] 0), (3, .ptr [2] 0), (4, .ptr [3] 0), (5, .ptr [0, 50] 0)] (b55_6 g c d l) 2 (by kernel_rfl) ?_ ?_
  · exact trivial
  refine at_seq ?_
  refine at_B [1, 2, 3, 4, 5, 8] [] [] [(1000000, .any), (1, .ptr [0] 0), (2, .ptr [1] 0), (3, .ptr [2] 0), (4, .ptr [3] 0), (5, .ptr [0, 50] 0), (8, .tv (.int .i64 g.op))] (b55_6 g c d l) 4 (by kernel_rfl) ?_ ?_
  · exact trivial
  refine at_block ?_
  refine at_B [1, 2, 3, 4, 5, 8, 9] [] [] [(1000000, .any), (1, .ptr [0] 0), (2, .ptr [1] 0), (3, .ptr [2] 0), (4, .ptr [3] 0), (5, .ptr [0, 50] 0), (8, .tv (.int .i64 g.op)), (9, .tv (.bool (decide (g.op = (3 : Int)))))] (b55_6 g c d l) 6 (by kernel_rfl) ?_ ?_
  · exact trivial
  refine at_cond (b := (decide (g.op = (3 : Int)))) rfl rfl (fun hc9_1 => ?_) (fun hc9_1 => ?_)
  · have q9_1 := hc9_1
    (try simp only [brs] at q9_1)
    have hix := val_ix ho.2.2 hc9_1
    refine at_D [some [[0]], some [[1]], none, some [[0, 50]], none, none, some [], none, some [[0, 50]], none, some [[0, 50]]] [0, 0, 0, 4, 14, 31, 63, 0, 128, 0, 512, 2047, 4095] [6] [.std, .std, .std, .std, .ret (.tv (.int .i64 (idxF (fcN g.nm) d.fs 0))), .eq (.tv (.ptr [.int .i64 (c.getD (idxF (fcN g.nm) d.fs 0).toNat 0)])), .std, .std, .std, .std, .std, .ret (.tv (.bool (cmpP (c.getD (idxF (fcN g.nm) d.fs 0).toNat 0) g.cm g.n)))] [PureCall Tryd.prog 57 [agD d, .tv (.str g.nm)] (.tv (.int .i64 (idxF (fcN g.nm) d.fs 0))), (0 ≤ (idxF (fcN g.nm) d.fs 0) ∧ (idxF (fcN g.nm) d.fs 0) < ((((c.map encI) : List (List TV)).length : Nat) : Int)), (.tv (.ptr (rowAt (c.map encI) (idxF (fcN g.nm) d.fs 0))) : AV) = .tv (.ptr [.int .i64 (c.getD (idxF (fcN g.nm) d.fs 0).toNat 0)]), PureCall Tryd.prog 56 [.tv (.int .i64 (c.getD (idxF (fcN g.nm) d.fs 0).toNat 0)), .tv (.int .i64 g.cm), .tv (.int .i64 g.n)] (.tv (.bool (cmpP (c.getD (idxF (fcN g.nm) d.fs 0).toNat 0) g.cm g.n)))] [(1000000, .any), (6, .tv (.bool (cmpP (c.getD (idxF (fcN g.nm) d.fs 0).toNat 0) g.cm g.n)))] (b55_6 g c d l) 19 (by kernel_rfl) ?_ ?_
    · exact ⟨(c57 d g.nm), by (try simp only [lns] at *); omega, congrArg (fun c => AV.tv (.ptr c)) (row_enc encI c (idxF (fcN g.nm) d.fs 0) 0 (by (try simp only [brs, lns] at *); omega)), (c56 (c.getD (idxF (fcN g.nm) d.fs 0).toNat 0) g.cm g.n), trivial⟩
    refine at_ret ?_
    exact fin_in (.inr rfl) [[0], [1], [2], [3]] (.tv (.bool (cmpP (c.getD (idxF (fcN g.nm) d.fs 0).toNat 0) g.cm g.n))) (b55_6 g c d l) (by kernel_rfl) (by rw [hold_3 hc9_1 ho.1]) (by kernel_rfl)
  · have q9_1 := hc9_1
    (try simp only [brs] at q9_1)
    refine at_B [3, 4, 5, 8, 23] [] [] [(1000000, .any), (3, .ptr [2] 0), (4, .ptr [3] 0), (5, .ptr [0, 50] 0), (8, .tv (.int .i64 g.op)), (23, .tv (.bool (decide (g.op = (4 : Int)))))] (b55_6 g c d l) 8 (by kernel_rfl) ?_ ?_
    · exact trivial
    refine at_cond (b := (decide (g.op = (4 : Int)))) rfl rfl (fun hc23_1 => ?_) (fun hc23_1 => ?_)
    · have q23_1 := hc23_1
      (try simp only [brs] at q23_1)
      refine at_B [6] [.std, .std, .std, .ret (.tv (.bool (List.any l (eqS g.nm))))] [PureCall Tryd.prog 46 [.tv (.sli 1 (l.map encStr)), .tv (.str g.nm)] (.tv (.bool (List.any l (eqS g.nm))))] [(1000000, .any), (6, .tv (.bool (List.any l (eqS g.nm))))] (b55_6 g c d l) 13 (by kernel_rfl) ?_ ?_
      · exact ⟨(c46 l g.nm), trivial⟩
      refine at_ret ?_
      exact fin_in (.inr rfl) [[0], [1], [2], [3]] (.tv (.bool (List.any l (eqS g.nm)))) (b55_6 g c d l) (by kernel_rfl) (by rw [hold_4 hc23_1]) (by kernel_rfl)
    · have q23_1 := hc23_1
      (try simp only [brs] at q23_1)
      refine at_B [4, 5, 8, 29] [] [] [(1000000, .any), (4, .ptr [3] 0), (5, .ptr [0, 50] 0), (8, .tv (.int .i64 g.op)), (29, .tv (.bool (decide (g.op = (5 : Int)))))] (b55_6 g c d l) 10 (by kernel_rfl) ?_ ?_
      · exact trivial
      refine at_cond (b := (decide (g.op = (5 : Int)))) rfl rfl (fun hc29_1 => ?_) (fun hc29_1 => ?_)
      · have q29_1 := hc29_1
        (try simp only [brs] at q29_1)
        have hk1 := val_kid ho.1 (by simpa using hc29_1)
        refine at_D [some [[3]], none, some [[0, 50]], none, some []] [0, 0, 2, 6, 14, 31, 63, 127] [6] [.std, .std, .std, .eq (.tv (.ptr (celF (g.ks.getD 0 Fm.z)))), .std, .retS (.tv (.bool (valF d c l (g.ks.getD 0 Fm.z))))] [(0 ≤ (0 : Int) ∧ (0 : Int) < ((((g.ks.map encF) : List (List TV)).length : Nat) : Int)), (.tv (.ptr (rowAt (g.ks.map encF) (0 : Int))) : AV) = .tv (.ptr (celF (g.ks.getD 0 Fm.z))), StabCall Tryd.prog 55 [agF (g.ks.getD 0 Fm.z), .ptr [0] 0, .ptr [1] 0, .ptr [2] 0, .ptr [3] 0] (b55_6 g c d l) (.tv (.bool (valF d c l (g.ks.getD 0 Fm.z))))] [(1000000, .any), (6, .tv (.bool (!(valF d c l (g.ks.getD 0 Fm.z)))))] (b55_6 g c d l) 18 (by kernel_rfl) ?_ ?_
        · exact ⟨by (try simp only [lns] at *); omega, congrArg (fun c => AV.tv (.ptr c)) (row_F g.ks (0 : Int) (by (try simp only [brs, lns] at *); omega)), StabCall.mono (H := (b55_7 c d l)) (ih (g.ks.getD 0 Fm.z) (getD_mem (by omega)) _ _ _ (hz.2 _ (getD_mem (by omega))) hc) (sub_cons (by kernel_rfl) (sub_cons (by kernel_rfl) (sub_cons (by kernel_rfl) (sub_cons (by kernel_rfl) sub_nil)))), trivial⟩
        refine at_ret ?_
        exact fin_in (.inr rfl) [[0], [1], [2], [3]] (.tv (.bool (!(valF d c l (g.ks.getD 0 Fm.z))))) (b55_6 g c d l) (by kernel_rfl) (by rw [hold_5 hc29_1 ho.1]) (by kernel_rfl)
      · have q29_1 := hc29_1
        (try simp only [brs] at q29_1)
        refine at_B [4, 5, 8, 38] [] [] [(1000000, .any), (4, .ptr [3] 0), (5, .ptr [0, 50] 0), (8, .tv (.int .i64 g.op)), (38, .tv (.bool (decide (g.op = (6 : Int)))))] (b55_6 g c d l) 12 (by kernel_rfl) ?_ ?_
        · exact trivial
        refine at_cond (b := (decide (g.op = (6 : Int)))) rfl rfl (fun hc38_1 => ?_) (fun hc38_1 => ?_)
        · have q38_1 := hc38_1
          (try simp only [brs] at q38_1)
          refine at_B [6] [.std, .std, .std, .retH (.tv (.bool (decide ((0 : Int) ≤ idxF (fun k => !valF d c l k) g.ks 0)))) (b55_6 g c d l)] [CallOK Tryd.prog 58 [.tv (.sli 5 (g.ks.map encF)), .fn (.func 59) [.ptr [3] 0]] (b55_6 g c d l) [15, 50] (fun v1 H1 => v1 = (.tv (.bool (decide ((0 : Int) ≤ idxF (fun k => !valF d c l k) g.ks 0)))) ∧ H1 = (b55_6 g c d l))] [(1000000, .any), (6, .tv (.bool (!(decide ((0 : Int) ≤ idxF (fun k => !valF d c l k) g.ks 0)))))] (b55_6 g c d l) 18 (by kernel_rfl) ?_ ?_
          · refine ⟨?_, trivial⟩
            · refine call_in (fn := Tryd.f58) [.tmp 4] Tryd.func58 rfl (by kernel_rfl) rfl ?_
              change AT _ _ _ ⟨[(0, .tv (.sli 5 (g.ks.map encF))), (1, .fn (.func 59) [.ptr [3] 0])], (b55_6 g c d l), [15, 50], 0⟩
              refine at_B [0, 1] [] [] [(1000000, .any), (0, .tv (.sli 5 (g.ks.map encF))), (1, .fn (.func 59) [.ptr [3] 0])] (b55_6 g c d l) 1 (by kernel_rfl) ?_ ?_
              · exact trivial
              refine at_B [4] [.std, .std, .retH (.tv (.int .i64 (idxF (fun k => !valF d c l k) g.ks 0))) (b55_6 g c d l)] [CallOK Tryd.prog 80 [.tv (.sli 5 (g.ks.map encF)), .fn (.func 59) [.ptr [3] 0]] (b55_6 g c d l) [3, 15, 50] (fun v1 H1 => v1 = (.tv (.int .i64 (idxF (fun k => !valF d c l k) g.ks 0))) ∧ H1 = (b55_6 g c d l))] [(1000000, .any), (4, .tv (.bool (decide ((0 : Int) ≤ idxF (fun k => !valF d c l k) g.ks 0))))] (b55_6 g c d l) 6 (by kernel_rfl) ?_ ?_
              · refine ⟨?_, trivial⟩
                · refine call_in (fn := Tryd.f80) [.tmp 4] Tryd.func80 rfl (by kernel_rfl) rfl ?_
                  change AT _ _ _ ⟨[(0, .tv (.sli 5 (g.ks.map encF))), (1, .fn (.func 59) [.ptr [3] 0])], (b55_6 g c d l), [3, 15, 50], 0⟩
                  refine at_B [0, 1] [] [] [(1000000, .any), (0, .tv (.sli 5 (g.ks.map encF))), (1, .fn (.func 59) [.ptr [3] 0])] (b55_6 g c d l) 1 (by kernel_rfl) ?_ ?_
                  · exact trivial
                  refine at_seq ?_
                  refine at_B [0, 1, 7, 8] [] [] [(1000000, .any), (0, .tv (.sli 5 (g.ks.map encF))), (1, .fn (.func 59) [.ptr [3] 0]), (7, .tv (.int .i64 (((g.ks.map encF).length : Nat) : Int))), (8, .tv (.int .i64 0))] (b55_6 g c d l) 4 (by kernel_rfl) ?_ ?_
                  · exact trivial
                  refine at_block ?_
                  refine at_len 0 rfl (fun hlen => ?_)
                  refine at_loopR (X := Nat) 0 (fun (i : Nat) => [(1000000, .any), (0, .tv (.sli 5 (g.ks.map encF))), (1, .fn (.func 59) [.ptr [3] 0]), (7, .tv (.int .i64 (((g.ks.map encF).length : Nat) : Int))), (8, .tv (.int .i64 ((i : Nat) : Int)))]) (fun (i : Nat) => (b55_6 g c d l)) (fun (i : Nat) => i ≤ g.ks.length ∧ idxF (fun k => !valF d c l k) (g.ks.drop i) i = idxF (fun k => !valF d c l k) g.ks 0) (fun (i : Nat) => g.ks.length - i) 0 ?_ ?_ ?_
                  · exact ⟨Nat.zero_le _, rfl⟩
                  · exact rn_ok [([0, 50], [0, 50]), ([0], [0]), ([1], [1]), ([2], [2]), ([3], [3])] [] [0, 1, 7, 8] (trivial) (by kernel_rfl)
                  · intro i hinv
                    obtain ⟨hx1, hx2⟩ := hinv
                    refine at_B [0, 1, 7, 8, 9] [] [] [(1000000, .any), (0, .tv (.sli 5 (g.ks.map encF))), (1, .fn (.func 59) [.ptr [3] 0]), (7, .tv (.int .i64 (((g.ks.map encF).length : Nat) : Int))), (8, .tv (.int .i64 ((i : Nat) : Int))), (9, .tv (.bool (decide (((i : Nat) : Int) < (((g.ks.map encF).length : Nat) : Int)))))] (b55_6 g c d l) 1 (by kernel_rfl) ?_ ?_
                    · exact trivial
                    refine at_seq ?_
                    refine at_cond (b := (decide (((i : Nat) : Int) < (((g.ks.map encF).length : Nat) : Int)))) rfl rfl (fun hc9_6 => ?_) (fun hc9_6 => ?_)
                    · have q9_6 := hc9_6
                      (try simp only [brs] at q9_6)
                      refine at_skip ?_
                      change AT _ _ _ _
                      refine at_seq ?_
                      refine at_block ?_
                      refine at_B [0, 1, 5, 7, 8] [] [] [(1000000, .any), (0, .tv (.sli 5 (g.ks.map encF))), (1, .fn (.func 59) [.ptr [3] 0]), (5, .tv (.int .i64 ((i : Nat) : Int))), (7, .tv (.int .i64 (((g.ks.map encF).length : Nat) : Int))), (8, .tv (.int .i64 ((i : Nat) : Int)))] (b55_6 g c d l) 3 (by kernel_rfl) ?_ ?_
                      · exact trivial
                      refine at_B [0, 1, 5, 7, 8, 16] [.std, .std, .std, .eq (.tv (.ptr (celF (g.ks.getD i Fm.z)))), .std, .retH (.tv (.bool (!(valF d c l (g.ks.getD i Fm.z))))) (b55_6 g c d l)] [(0 ≤ ((i : Nat) : Int) ∧ ((i : Nat) : Int) < ((((g.ks.map encF) : List (List TV)).length : Nat) : Int)), (.tv (.ptr (rowAt (g.ks.map encF) ((i : Nat) : Int))) : AV) = .tv (.ptr (celF (g.ks.getD i Fm.z))), CallOK Tryd.prog 59 [agF (g.ks.getD i Fm.z), .ptr [3] 0] (b55_6 g c d l) [8, 4, 3, 15, 50] (fun v1 H1 => v1 = (.tv (.bool (!(valF d c l (g.ks.getD i Fm.z))))) ∧ H1 = (b55_6 g c d l))] [(1000000, .any), (0, .tv (.sli 5 (g.ks.map encF))), (1, .fn (.func 59) [.ptr [3] 0]), (5, .tv (.int .i64 ((i : Nat) : Int))), (7, .tv (.int .i64 (((g.ks.map encF).length : Nat) : Int))), (8, .tv (.int .i64 ((i : Nat) : Int))), (16, .tv (.bool (!(valF d c l (g.ks.getD i Fm.z)))))] (b55_6 g c d l) 9 (by kernel_rfl) ?_ ?_
                      · refine ⟨by (try simp only [lns] at *); omega, congrArg (fun c => AV.tv (.ptr c)) (row_F g.ks ((i : Nat) : Int) (by (try simp only [brs, lns] at *); omega)), ?_, trivial⟩
                        · refine call_in (fn := Tryd.f59) [.tmp 3] Tryd.func59 rfl (by kernel_rfl) rfl ?_
                          change AT _ _ _ ⟨[(0, agF (g.ks.getD i Fm.z)), (1, .ptr [3] 0)], (b55_6 g c d l), [8, 4, 3, 15, 50], 0⟩
                          refine at_B [1, 2] [] [] [(1000000, .any), (1, .ptr [3] 0), (2, .ptr [0, 8, 4, 3, 15, 50] 0)] (b55_8 g i c d l) 2 (by kernel_rfl) ?_ ?_
                          · exact trivial
                          refine at_B [3] [.std, .std, .retS (.tv (.bool (valF d c l (g.ks.getD i Fm.z))))] [StabCall Tryd.prog 55 [agF (g.ks.getD i Fm.z), .ptr [0] 0, .ptr [1] 0, .ptr [2] 0, .ptr [3] 0] (b55_8 g i c d l) (.tv (.bool (valF d c l (g.ks.getD i Fm.z))))] [(1000000, .any), (3, .tv (.bool (!(valF d c l (g.ks.getD i Fm.z)))))] (b55_8 g i c d l) 7 (by kernel_rfl) ?_ ?_
                          · exact ⟨StabCall.mono (H := (b55_7 c d l)) (ih (g.ks.getD i Fm.z) (getD_mem (by omega)) _ _ _ (hz.2 _ (getD_mem (by omega))) hc) (sub_cons (by kernel_rfl) (sub_cons (by kernel_rfl) (sub_cons (by kernel_rfl) (sub_cons (by kernel_rfl) sub_nil)))), trivial⟩
                          refine at_ret ?_
                          exact fin_in (.inr rfl) [[0, 50], [0], [1], [2], [3]] (.tv (.bool (!(valF d c l (g.ks.getD i Fm.z))))) (b55_8 g i c d l) (by kernel_rfl) rfl (by kernel_rfl)
                      refine at_cond (b := (!(valF d c l (g.ks.getD i Fm.z)))) rfl rfl (fun hc16_6 => ?_) (fun hc16_6 => ?_)
                      · have q16_6 := hc16_6
                        (try simp only [brs] at q16_6)
                        refine at_B [4] [] [] [(1000000, .any), (4, .tv (.int .i64 ((i : Nat) : Int)))] (b55_6 g c d l) 11 (by kernel_rfl) ?_ ?_
                        · exact trivial
                        refine at_ret ?_
                        exact fin_in (.inr rfl) [[0, 50], [0], [1], [2], [3]] (.tv (.int .i64 ((i : Nat) : Int))) (b55_6 g c d l) (by kernel_rfl) (by rw [idx_stop (p := (fun k => !valF d c l k)) (i := i) Fm.z (by omega) hx2 hc16_6]) (by kernel_rfl)
                      · have q16_6 := hc16_6
                        (try simp only [brs] at q16_6)
                        refine at_skip ?_
                        change AT _ _ _ _
                        refine at_Bl [0, 1, 7, 8] [.eq (.tv (.int .i64 ((i + 1 : Nat) : Int)))] [(.tv (.int .i64 (wr (((i : Nat) : Int) + 1))) : AV) = .tv (.int .i64 ((i + 1 : Nat) : Int))] [(1000000, .any), (0, .tv (.sli 5 (g.ks.map encF))), (1, .fn (.func 59) [.ptr [3] 0]), (7, .tv (.int .i64 (((g.ks.map encF).length : Nat) : Int))), (8, .tv (.int .i64 ((i + 1 : Nat) : Int)))] (b55_6 g c d l) 11 (by kernel_rfl) ?_ ?_
                        · exact ⟨succ_av i (by (try simp only [lns] at *); omega), trivial⟩
                        refine ⟨rfl, (i + 1), ?_, ?_, ?_⟩
                        · (try dsimp only); omega
                        · exact ⟨by omega, idx_step (p := (fun k => !valF d c l k)) Fm.z (by omega) hx2 hc16_6⟩
                        · exact rn_ok [([0, 50], [0, 50]), ([0], [0]), ([1], [1]), ([2], [2]), ([3], [3])] [] [0, 1, 7, 8] (trivial) (by kernel_rfl)
                    · have q9_6 := hc9_6
                      (try simp only [brs] at q9_6)
                      refine at_exit ?_
                      change AT _ _ _ _
                      refine at_B [4] [] [] [(1000000, .any), (4, .tv (.int .i64 (-1)))] (b55_6 g c d l) 6 (by kernel_rfl) ?_ ?_
                      · exact trivial
                      refine at_ret ?_
                      exact fin_in (.inr rfl) [[0, 50], [0], [1], [2], [3]] (.tv (.int .i64 (-1))) (b55_6 g c d l) (by kernel_rfl) (by rw [idx_end (p := (fun k => !valF d c l k)) (i := i) (by omega) hx2]) (by kernel_rfl)
              refine at_ret ?_
              exact fin_in (.inr rfl) [[0, 50], [0], [1], [2], [3]] (.tv (.bool (decide ((0 : Int) ≤ idxF (fun k => !valF d c l k) g.ks 0)))) (b55_6 g c d l) (by kernel_rfl) rfl (by kernel_rfl)
          refine at_ret ?_
          exact fin_in (.inr rfl) [[0], [1], [2], [3]] (.tv (.bool (!(decide ((0 : Int) ≤ idxF (fun k => !valF d c l k) g.ks 0))))) (b55_6 g c d l) (by kernel_rfl) (by rw [hold_6 hc38_1]) (by kernel_rfl)
        · have q38_1 := hc38_1
          (try simp only [brs] at q38_1)
          refine at_B [4, 5, 45] [] [] [(1000000, .any), (4, .ptr [3] 0), (5, .ptr [0, 50] 0), (45, .tv (.bool (decide (g.op = (7 : Int)))))] (b55_6 g c d l) 14 (by kernel_rfl) ?_ ?_
          · exact trivial
          refine at_cond (b := (decide (g.op = (7 : Int)))) rfl rfl (fun hc45_1 => ?_) (fun hc45_1 => ?_)
          · have q45_1 := hc45_1
            (try simp only [brs] at q45_1)
            refine at_B [6] [.std, .std, .std, .retH (.tv (.bool (decide ((0 : Int) ≤ idxF (fun k => valF d c l k) g.ks 0)))) (b55_6 g c d l)] [CallOK Tryd.prog 58 [.tv (.sli 5 (g.ks.map encF)), .fn (.func 55) [.ptr [0] 0, .ptr [1] 0, .ptr [2] 0, .ptr [3] 0]] (b55_6 g c d l) [17, 50] (fun v1 H1 => v1 = (.tv (.bool (decide ((0 : Int) ≤ idxF (fun k => valF d c l k) g.ks 0)))) ∧ H1 = (b55_6 g c d l))] [(1000000, .any), (6, .tv (.bool (decide ((0 : Int) ≤ idxF (fun k => valF d c l k) g.ks 0))))] (b55_6 g c d l) 19 (by kernel_rfl) ?_ ?_
            · refine ⟨?_, trivial⟩
              · refine call_in (fn := Tryd.f58) [.tmp 4] Tryd.func58 rfl (by kernel_rfl) rfl ?_
                change AT _ _ _ ⟨[(0, .tv (.sli 5 (g.ks.map encF))), (1, .fn (.func 55) [.ptr [0] 0, .ptr [1] 0, .ptr [2] 0, .ptr [3] 0])], (b55_6 g c d l), [17, 50], 0⟩
                refine at_B [0, 1] [] [] [(1000000, .any), (0, .tv (.sli 5 (g.ks.map encF))), (1, .fn (.func 55) [.ptr [0] 0, .ptr [1] 0, .ptr [2] 0, .ptr [3] 0])] (b55_6 g c d l) 1 (by kernel_rfl) ?_ ?_
                · exact trivial
                refine at_B [4] [.std, .std, .retH (.tv (.int .i64 (idxF (fun k => valF d c l k) g.ks 0))) (b55_6 g c d l)] [CallOK Tryd.prog 80 [.tv (.sli 5 (g.ks.map encF)), .fn (.func 55) [.ptr [0] 0, .ptr [1] 0, .ptr [2] 0, .ptr [3] 0]] (b55_6 g c d l) [3, 17, 50] (fun v1 H1 => v1 = (.tv (.int .i64 (idxF (fun k => valF d c l k) g.ks 0))) ∧ H1 = (b55_6 g c d l))] [(1000000, .any), (4, .tv (.bool (decide ((0 : Int) ≤ idxF (fun k => valF d c l k) g.ks 0))))] (b55_6 g c d l) 6 (by kernel_rfl) ?_ ?_
                · refine ⟨?_, trivial⟩
                  · refine call_in (fn := Tryd.f80) [.tmp 4] Tryd.func80 rfl (by kernel_rfl) rfl ?_
                    change AT _ _ _ ⟨[(0, .tv (.sli 5 (g.ks.map encF))), (1, .fn (.func 55) [.ptr [0] 0, .ptr [1] 0, .ptr [2] 0, .ptr [3] 0])], (b55_6 g c d l), [3, 17, 50], 0⟩
                    refine at_B [0, 1] [] [] [(1000000, .any), (0, .tv (.sli 5 (g.ks.map encF))), (1, .fn (.func 55) [.ptr [0] 0, .ptr [1] 0, .ptr [2] 0, .ptr [3] 0])] (b55_6 g c d l) 1 (by kernel_rfl) ?_ ?_
                    · exact trivial
                    refine at_seq ?_
                    refine at_B [0, 1, 7, 8] [] [] [(1000000, .any), (0, .tv (.sli 5 (g.ks.map encF))), (1, .fn (.func 55) [.ptr [0] 0, .ptr [1] 0, .ptr [2] 0, .ptr [3] 0]), (7, .tv (.int .i64 (((g.ks.map encF).length : Nat) : Int))), (8, .tv (.int .i64 0))] (b55_6 g c d l) 4 (by kernel_rfl) ?_ ?_
                    · exact trivial
                    refine at_block ?_
                    refine at_len 0 rfl (fun hlen => ?_)
                    refine at_loopR (X := Nat) 0 (fun (i : Nat) => [(1000000, .any), (0, .tv (.sli 5 (g.ks.map encF))), (1, .fn (.func 55) [.ptr [0] 0, .ptr [1] 0, .ptr [2] 0, .ptr [3] 0]), (7, .tv (.int .i64 (((g.ks.map encF).length : Nat) : Int))), (8, .tv (.int .i64 ((i : Nat) : Int)))]) (fun (i : Nat) => (b55_6 g c d l)) (fun (i : Nat) => i ≤ g.ks.length ∧ idxF (fun k => valF d c l k) (g.ks.drop i) i = idxF (fun k => valF d c l k) g.ks 0) (fun (i : Nat) => g.ks.length - i) 0 ?_ ?_ ?_
                    · exact ⟨Nat.zero_le _, rfl⟩
                    · exact rn_ok [([0, 50], [0, 50]), ([0], [0]), ([1], [1]), ([2], [2]), ([3], [3])] [] [0, 1, 7, 8] (trivial) (by kernel_rfl)
                    · intro i hinv
                      obtain ⟨hx1, hx2⟩ := hinv
                      refine at_B [0, 1, 7, 8, 9] [] [] [(1000000, .any), (0, .tv (.sli 5 (g.ks.map encF))), (1, .fn (.func 55) [.ptr [0] 0, .ptr [1] 0, .ptr [2] 0, .ptr [3] 0]), (7, .tv (.int .i64 (((g.ks.map encF).length : Nat) : Int))), (8, .tv (.int .i64 ((i : Nat) : Int))), (9, .tv (.bool (decide (((i : Nat) : Int) < (((g.ks.map encF).length : Nat) : Int)))))] (b55_6 g c d l) 1 (by kernel_rfl) ?_ ?_
                      · exact trivial
                      refine at_seq ?_
                      refine at_cond (b := (decide (((i : Nat) : Int) < (((g.ks.map encF).length : Nat) : Int)))) rfl rfl (fun hc9_11 => ?_) (fun hc9_11 => ?_)
                      · have q9_11 := hc9_11
                        (try simp only [brs] at q9_11)
                        refine at_skip ?_
                        change AT _ _ _ _
                        refine at_seq ?_
                        refine at_block ?_
                        refine at_B [0, 1, 5, 7, 8] [] [] [(1000000, .any), (0, .tv (.sli 5 (g.ks.map encF))), (1, .fn (.func 55) [.ptr [0] 0, .ptr [1] 0, .ptr [2] 0, .ptr [3] 0]), (5, .tv (.int .i64 ((i : Nat) : Int))), (7, .tv (.int .i64 (((g.ks.map encF).length : Nat) : Int))), (8, .tv (.int .i64 ((i : Nat) : Int)))] (b55_6 g c d l) 3 (by kernel_rfl) ?_ ?_
                        · exact trivial
                        refine at_B [0, 1, 5, 7, 8, 16] [.std, .std, .std, .eq (.tv (.ptr (celF (g.ks.getD i Fm.z)))), .std, .retS (.tv (.bool (valF d c l (g.ks.getD i Fm.z))))] [(0 ≤ ((i : Nat) : Int) ∧ ((i : Nat) : Int) < ((((g.ks.map encF) : List (List TV)).length : Nat) : Int)), (.tv (.ptr (rowAt (g.ks.map encF) ((i : Nat) : Int))) : AV) = .tv (.ptr (celF (g.ks.getD i Fm.z))), StabCall Tryd.prog 55 [agF (g.ks.getD i Fm.z), .ptr [0] 0, .ptr [1] 0, .ptr [2] 0, .ptr [3] 0] (b55_6 g c d l) (.tv (.bool (valF d c l (g.ks.getD i Fm.z))))] [(1000000, .any), (0, .tv (.sli 5 (g.ks.map encF))), (1, .fn (.func 55) [.ptr [0] 0, .ptr [1] 0, .ptr [2] 0, .ptr [3] 0]), (5, .tv (.int .i64 ((i : Nat) : Int))), (7, .tv (.int .i64 (((g.ks.map encF).length : Nat) : Int))), (8, .tv (.int .i64 ((i : Nat) : Int))), (16, .tv (.bool (valF d c l (g.ks.getD i Fm.z))))] (b55_6 g c d l) 9 (by kernel_rfl) ?_ ?_
                        · exact ⟨by (try simp only [lns] at *); omega, congrArg (fun c => AV.tv (.ptr c)) (row_F g.ks ((i : Nat) : Int) (by (try simp only [brs, lns] at *); omega)), StabCall.mono (H := (b55_7 c d l)) (ih (g.ks.getD i Fm.z) (getD_mem (by omega)) _ _ _ (hz.2 _ (getD_mem (by omega))) hc) (sub_cons (by kernel_rfl) (sub_cons (by kernel_rfl) (sub_cons (by kernel_rfl) (sub_cons (by kernel_rfl) sub_nil)))), trivial⟩
                        refine at_cond (b := (valF d c l (g.ks.getD i Fm.z))) rfl rfl (fun hc16_11 => ?_) (fun hc16_11 => ?_)
                        · have q16_11 := hc16_11
                          (try simp only [brs] at q16_11)
                          refine at_B [4] [] [] [(1000000, .any), (4, .tv (.int .i64 ((i : Nat) : Int)))] (b55_6 g c d l) 11 (by kernel_rfl) ?_ ?_
                          · exact trivial
                          refine at_ret ?_
                          exact fin_in (.inr rfl) [[0, 50], [0], [1], [2], [3]] (.tv (.int .i64 ((i : Nat) : Int))) (b55_6 g c d l) (by kernel_rfl) (by rw [idx_stop (p := (fun k => valF d c l k)) (i := i) Fm.z (by omega) hx2 hc16_11]) (by kernel_rfl)
                        · have q16_11 := hc16_11
                          (try simp only [brs] at q16_11)
                          refine at_skip ?_
                          change AT _ _ _ _
                          refine at_Bl [0, 1, 7, 8] [.eq (.tv (.int .i64 ((i + 1 : Nat) : Int)))] [(.tv (.int .i64 (wr (((i : Nat) : Int) + 1))) : AV) = .tv (.int .i64 ((i + 1 : Nat) : Int))] [(1000000, .any), (0, .tv (.sli 5 (g.ks.map encF))), (1, .fn (.func 55) [.ptr [0] 0, .ptr [1] 0, .ptr [2] 0, .ptr [3] 0]), (7, .tv (.int .i64 (((g.ks.map encF).length : Nat) : Int))), (8, .tv (.int .i64 ((i + 1 : Nat) : Int)))] (b55_6 g c d l) 11 (by kernel_rfl) ?_ ?_
                          · exact ⟨succ_av i (by (try simp only [lns] at *); omega), trivial⟩
                          refine ⟨rfl, (i + 1), ?_, ?_, ?_⟩
                          · (try dsimp only); omega
                          · exact ⟨by omega, idx_step (p := (fun k => valF d c l k)) Fm.z (by omega) hx2 hc16_11⟩
                          · exact rn_ok [([0, 50], [0, 50]), ([0], [0]), ([1], [1]), ([2], [2]), ([3], [3])] [] [0, 1, 7, 8] (trivial) (by kernel_rfl)
                      · have q9_11 := hc9_11
                        (try simp only [brs] at q9_11)
                        refine at_exit ?_
                        change AT _ _ _ _
                        refine at_B [4] [] [] [(1000000, .any), (4, .tv (.int .i64 (-1)))] (b55_6 g c d l) 6 (by kernel_rfl) ?_ ?_
                        · exact trivial
                        refine at_ret ?_
                        exact fin_in (.inr rfl) [[0, 50], [0], [1], [2], [3]] (.tv (.int .i64 (-1))) (b55_6 g c d l) (by kernel_rfl) (by rw [idx_end (p := (fun k => valF d c l k)) (i := i) (by omega) hx2]) (by kernel_rfl)
                refine at_ret ?_
                exact fin_in (.inr rfl) [[0, 50], [0], [1], [2], [3]] (.tv (.bool (decide ((0 : Int) ≤ idxF (fun k => valF d c l k) g.ks 0)))) (b55_6 g c d l) (by kernel_rfl) rfl (by kernel_rfl)
            refine at_ret ?_
            exact fin_in (.inr rfl) [[0], [1], [2], [3]] (.tv (.bool (decide ((0 : Int) ≤ idxF (fun k => valF d c l k) g.ks 0)))) (b55_6 g c d l) (by kernel_rfl) (by rw [hold_7 hc45_1]) (by kernel_rfl)
          · have q45_1 := hc45_1
            (try simp only [brs] at q45_1)
            refine at_skip ?_
            change AT _ _ _ _
            refine at_B [6] [] [] [(1000000, .any), (6, .tv (.bool (decide (g.op = (1 : Int)))))] (b55_6 g c d l) 18 (by kernel_rfl) ?_ ?_
            · exact trivial
            refine at_ret ?_
            exact fin_in (.inr rfl) [[0], [1], [2], [3]] (.tv (.bool (decide (g.op = (1 : Int))))) (b55_6 g c d l) (by kernel_rfl) (by rw [hold_0 ho.1 hc9_1 hc23_1 hc29_1 hc38_1 hc45_1]) (by kernel_rfl)
noncomputable abbrev b26_1 (l : (List ByteArray)) : Id × AO := ([3], .row [.tv (.sli 1 (l.map encStr))] false)
noncomputable abbrev b26_2 : Id × AO := ([15], .row [.fn (.func 55) [.ptr [2] 0, .ptr [1] 0, .ptr [3] 0, .ptr [15] 0]] false)
noncomputable abbrev b26_3 (c : (List Int)) : Id × AO := ([2], .row [.tv (.sli 1 (c.map encI))] false)
noncomputable abbrev b26_4 (l : (List ByteArray)) (c : (List Int)) (d : Dm) (f : Fm) : Hp := [(b26_1 l), (b26_3 c), ([1], .row ((celD d).map .tv) false), ([0], .row ((celF f).map .tv) false)]
noncomputable abbrev b26_5 (l : (List ByteArray)) (c : (List Int)) (d : Dm) (f : Fm) : Hp := [b26_2, (b26_1 l), (b26_3 c), ([1], .row ((celD d).map .tv) false), ([0], .row ((celF f).map .tv) false)]
theorem c26 (f : Fm) (d : Dm) (c : (List Int)) (l : (List ByteArray))  : PureCall Tryd.prog 26 [agF f, agD d, .tv (.sli 1 (c.map encI)), .tv (.sli 1 (l.map encStr))] (.tv (.bool (holdP f d c l))) := by
  refine walk0 (fn := Tryd.f26) [.tmp 8] Tryd.func26 rfl (by kernel_rfl) rfl (by kernel_rfl) (by kernel_rfl) ?_
  change AT _ _ _ ⟨[(0, agF f), (1, agD d), (2, .tv (.sli 1 (c.map encI))), (3, .tv (.sli 1 (l.map encStr)))], [], [], 0⟩
  refine at_B [4, 5, 6, 7] [] [] [(1000000, .any), (4, .ptr [0] 0), (5, .ptr [1] 0), (6, .ptr [2] 0), (7, .ptr [3] 0)] (b26_4 l c d f) 5 (by kernel_rfl) ?_ ?_
  · exact trivial
  refine at_seq ?_
  refine at_B [4, 5, 6, 7, 19] [.std, .std, .ret (.tv (.int .i64 (checkA f d))), .std, .std, .std, .std, .ret (.tv (.bool (fitsD d c)))] [PureCall Tryd.prog 44 [agF f, agD d, .tv (.fn 54)] (.tv (.int .i64 (checkA f d))), ((!decide ((checkA f d) = (0 : Int))) = false) → PureCall Tryd.prog 30 [agD d, .tv (.sli 1 (c.map encI))] (.tv (.bool (fitsD d c)))] [(1000000, .any), (4, .ptr [0] 0), (5, .ptr [1] 0), (6, .ptr [2] 0), (7, .ptr [3] 0), (19, .tv (.bool ((!decide ((checkA f d) = (0 : Int))) || (!(fitsD d c)))))] (b26_4 l c d f) 15 (by kernel_rfl) ?_ ?_
  · exact ⟨(c44 f d), fun hg0 => (c30 d c), trivial⟩
  refine at_cond (b := ((!decide ((checkA f d) = (0 : Int))) || (!(fitsD d c)))) rfl rfl (fun hc19 => ?_) (fun hc19 => ?_)
  · have q19 := hc19
    (try simp only [brs] at q19)
    refine at_B [8] [] [] [(1000000, .any), (8, .tv (.bool false))] (b26_4 l c d f) 16 (by kernel_rfl) ?_ ?_
    · exact trivial
    refine at_ret ?_
    refine fin0 (.inr rfl) (.tv (.bool false)) (b26_4 l c d f) (.tv (.bool false)) (H2 := (b26_4 l c d f)) (by kernel_rfl) (by kernel_rfl) ?_
    refine Le.of_eq ?_
    rw [holdP_f hc19]
  · have q19 := hc19
    (try simp only [brs] at q19)
    refine at_skip ?_
    change AT _ _ _ _
    refine at_B [4, 5, 6, 7, 9] [] [] [(1000000, .any), (4, .ptr [0] 0), (5, .ptr [1] 0), (6, .ptr [2] 0), (7, .ptr [3] 0), (9, .ptr [15] 0)] [([15], .row [.tv .nilf] false), (b26_1 l), (b26_3 c), ([1], .row ((celD d).map .tv) false), ([0], .row ((celF f).map .tv) false)] 16 (by kernel_rfl) ?_ ?_
    · exact trivial
    refine at_B [4, 9] [] [] [(1000000, .any), (4, .ptr [0] 0), (9, .ptr [15] 0)] (b26_5 l c d f) 18 (by kernel_rfl) ?_ ?_
    · exact trivial
    refine at_B [8] [.std, .std, .retS (.tv (.bool (valF d c l f)))] [StabCall Tryd.prog 55 [agF f, .ptr [2] 0, .ptr [1] 0, .ptr [3] 0, .ptr [15] 0] (b26_5 l c d f) (.tv (.bool (valF d c l f)))] [(1000000, .any), (8, .tv (.bool (valF d c l f)))] (b26_5 l c d f) 22 (by kernel_rfl) ?_ ?_
    · exact ⟨StabCall.mono (H := [(b26_3 c), ([1], .row ((celD d).map .tv) false), (b26_1 l), b26_2]) (stab_mv (args := [agF f, .ptr [0] 0, .ptr [1] 0, .ptr [2] 0, .ptr [3] 0]) (H := [([0], .row [.tv (.sli 1 (c.map encI))] false), ([1], .row ((celD d).map .tv) false), ([2], .row [.tv (.sli 1 (l.map encStr))] false), ([3], .row [.fn (.func 55) [.ptr [0] 0, .ptr [1] 0, .ptr [2] 0, .ptr [3] 0]] false)]) (H2 := [(b26_3 c), ([1], .row ((celD d).map .tv) false), (b26_1 l), b26_2]) (q := [50]) [([2], [0]), ([1], [1]), ([3], [2]), ([15], [3])] [([0], [2]), ([1], [1]), ([2], [3]), ([3], [15])] [] [] ((c55 f d c l (holdP_hyp hc19).1 (holdP_hyp hc19).2) _ _ (fun _ _ h => h)) (by kernel_rfl) (by kernel_rfl) (trivial) (by kernel_rfl) (by kernel_rfl) (trivial)) (sub_cons (by kernel_rfl) (sub_cons (by kernel_rfl) (sub_cons (by kernel_rfl) (sub_cons (by kernel_rfl) sub_nil)))), trivial⟩
    refine at_ret ?_
    refine fin0 (.inr rfl) (.tv (.bool (valF d c l f))) (b26_5 l c d f) (.tv (.bool (valF d c l f))) (H2 := (b26_5 l c d f)) (by kernel_rfl) (by kernel_rfl) ?_
    refine Le.of_eq ?_
    rw [holdP_t hc19]
end Go.Proofs.YtphmhelkojdlaaaDoor
namespace Go.Proofs.YtphmhelkojdlaaaDoor
open Go.RowKit
set_option linter.unusedSimpArgs false
set_option linter.unusedVariables false
def addT (f : Fm) (l : List ByteArray) : List ByteArray := bif decide (f.op = 4) && !(List.any l (eqR f.nm)) then l ++ [f.nm] else l
mutual
def namesF : Fm → List ByteArray → List ByteArray
  | .mk o nm c n ks, l => namesFs ks (addT (.mk o nm c n ks) l)
def namesFs : List Fm → List ByteArray → List ByteArray
  | [], l => l
  | k :: r, l => namesFs r (namesF k l)
end
theorem namesF_eq (f : Fm) (l : List ByteArray) : namesF f l = namesFs f.ks (addT f l) := by
  cases f; simp only [namesF, Fm.ks]
theorem addT_len (f : Fm) (l : List ByteArray) : (addT f l).length ≤ l.length + 1 := by
  unfold addT
  cases decide (f.op = 4) && !(List.any l (eqR f.nm)) <;> simp
theorem namesFs_len {ks : List Fm} (h : ∀ k ∈ ks, ∀ l, (namesF k l).length ≤ l.length + nF k) : ∀ l, (namesFs ks l).length ≤ l.length + nFs ks := by
  induction ks with
  | nil => intro l; simp [namesFs, nFs]
  | cons k r ih =>
    intro l
    simp only [namesFs, nFs]
    have h1 := h k (by simp) l
    have h2 := ih (fun x hx => h x (by simp [hx])) (namesF k l)
    omega
theorem namesF_len : ∀ (f : Fm) (l : List ByteArray), (namesF f l).length ≤ l.length + nF f := by
  refine Fm.ind (fun f ih => ?_)
  intro l
  rw [namesF_eq, nF_eq]
  have h1 := namesFs_len ih (addT f l)
  have h2 := addT_len f l
  omega
theorem addT_t {f : Fm} {l : List ByteArray} (h : ((decide (f.op = (4 : Int))) && (!(List.any l (eqR f.nm)))) = true) : addT f l = l ++ [f.nm] := by unfold addT; rw [h]; rfl
theorem addT_f {f : Fm} {l : List ByteArray} (h : ((decide (f.op = (4 : Int))) && (!(List.any l (eqR f.nm)))) = false) : addT f l = l := by unfold addT; rw [h]; rfl
theorem addS_t {f : Fm} {l : List ByteArray} (h : ((decide (f.op = (4 : Int))) && (!(List.any l (eqS f.nm)))) = true) : addT f l = l ++ [f.nm] := addT_t (by rw [← anySR]; exact h)
theorem addS_f {f : Fm} {l : List ByteArray} (h : ((decide (f.op = (4 : Int))) && (!(List.any l (eqS f.nm)))) = false) : addT f l = l := addT_f (by rw [← anySR]; exact h)
/-- What holds between two kids: the rest gives what all give, and there is room. -/
def nmI (f : Fm) (l0 : List ByteArray) (i : Nat) (b : List ByteArray) : Prop := i ≤ f.ks.length ∧ namesFs (f.ks.drop i) b = namesF f l0 ∧ b.length + nFs (f.ks.drop i) ≤ 1000000
theorem nmI_start {f : Fm} {l0 b : List ByteArray} (h : addT f l0 = b) (hl : l0.length + nF f ≤ 1000000) : nmI f l0 0 b := by
  subst h
  refine ⟨Nat.zero_le _, by rw [namesF_eq]; rfl, ?_⟩
  have := addT_len f l0
  rw [nF_eq] at hl
  simp only [List.drop_zero]; omega
theorem nmI_kid {f : Fm} {l0 b : List ByteArray} {i : Nat} (h : nmI f l0 i b) (hi : i < f.ks.length) : b.length + nF (f.ks.getD i Fm.z) ≤ 1000000 := by
  obtain ⟨_, _, h3⟩ := h
  rw [drop_get f.ks i Fm.z hi, nFs] at h3; omega
theorem nmI_step {f : Fm} {l0 b : List ByteArray} {i : Nat} (h : nmI f l0 i b) (hi : i < f.ks.length) : nmI f l0 (i + 1) (namesF (f.ks.getD i Fm.z) b) := by
  obtain ⟨_, h2, h3⟩ := h
  rw [drop_get f.ks i Fm.z hi, nFs] at h3
  rw [drop_get f.ks i Fm.z hi, namesFs] at h2
  have := namesF_len (f.ks.getD i Fm.z) b
  exact ⟨hi, h2, by omega⟩
theorem nmI_end {f : Fm} {l0 b : List ByteArray} {i : Nat} (h : nmI f l0 i b) (hi : f.ks.length ≤ i) : b = namesF f l0 := by
  obtain ⟨_, h2, _⟩ := h
  rw [List.drop_of_length_le hi] at h2; exact h2
end Go.Proofs.YtphmhelkojdlaaaDoor
namespace Go.Proofs.YtphmhelkojdlaaaDoor
open Go.RowKit
set_option maxRecDepth 10000
set_option linter.unusedSimpArgs false
set_option linter.unusedVariables false
noncomputable abbrev b19_1 : Id × AO := ([7], .loop [(1000000, .any), (3, .ptr [2] 0), (6, .fn (.func 75) [.ptr [0, 4] 0])] 24 [7] (fcode Tryd.f19 [1, 1, 0, 1, 1, 0]) (fcode Tryd.f19 [1, 1, 0, 1, 1, 1]) .ready none)
noncomputable abbrev b19_2 : Id × AO := ([1, 8], .row [.fn (.func 76) [.ptr [0, 8] 0, .ptr [1, 8] 0]] false)
noncomputable abbrev b19_3 (g : Fm) : Id × AO := ([0, 6, 8], .row ((celF g).map .tv) false)
noncomputable abbrev b19_4 : Id × AO := ([7], .loop [(1000000, .any), (3, .ptr [2] 0), (6, .fn (.func 75) [.ptr [0, 4] 0])] 24 [7] (fcode Tryd.f19 [1, 1, 0, 1, 1, 0]) (fcode Tryd.f19 [1, 1, 0, 1, 1, 1]) .busy none)
noncomputable abbrev b19_5 (l : (List ByteArray)) : Id × AO := ([2], .row [.sl [5] 1 0 l.length] false)
noncomputable abbrev b19_6 (g : Fm) (i : Nat) (b : (List ByteArray)) : Id × AO := ([2], .row [.sl [1000, 8, 10, 6, 8] 1 0 (namesF (g.ks.getD i Fm.z) b).length] false)
noncomputable abbrev b19_7 (f : Fm) : Id × AO := ([2], .row [.sl [1000, 6, 8] 1 0 (namesF f ([] : List ByteArray)).length] false)
noncomputable abbrev b19_8 (g : Fm) (i : Nat) (b : (List ByteArray)) : Id × AO := ([1000, 8, 10, 6, 8], .row (flat encStr (namesF (g.ks.getD i Fm.z) b)) false)
noncomputable abbrev b19_9 (g : Fm) (i : Nat) : Id × AO := ([4, 10, 6, 8], .row ((celF (g.ks.getD i Fm.z)).map .tv) false)
noncomputable abbrev b19_10 (f : Fm) : Id × AO := ([1000, 6, 8], .row (flat encStr (namesF f ([] : List ByteArray))) false)
noncomputable abbrev b19_11 (b : (List ByteArray)) : Id × AO := ([2], .row [.sl [0, 10, 6, 8] 1 0 b.length] false)
noncomputable abbrev b19_12 (g : Fm) : Id × AO := ([0, 4, 6, 8], .row ((celF g).map .tv) false)
noncomputable abbrev b19_13 (b : (List ByteArray)) : Id × AO := ([0, 10, 6, 8], .row (flat encStr b) false)
noncomputable abbrev b19_14 (g : Fm) (l : (List ByteArray)) : Id × AO := ([2], .row [.sl [1000, 6, 8] 1 0 (namesF g l).length] false)
noncomputable abbrev b19_15 (g : Fm) (l : (List ByteArray)) : Id × AO := ([1000, 6, 8], .row (flat encStr (namesF g l)) false)
noncomputable abbrev b19_16 (l : (List ByteArray)) (g : Fm) : Id × AO := ([2], .row [.sl [16, 4, 6, 8] 1 0 (l ++ [g.nm]).length] false)
noncomputable abbrev b19_17 (l : (List ByteArray)) (g : Fm) : Id × AO := ([16, 4, 6, 8], .row (flat encStr (l ++ [g.nm])) false)
noncomputable abbrev b19_18 (g : Fm) (l : (List ByteArray)) (f : Fm) : Hp := [(b19_3 g), b19_2, ([0, 8], .row [.yl [7]] false), b19_1, ([6], .dfr), ([5], .row (flat encStr l) false), ([0, 4], .row ((celF f).map .tv) false), (b19_5 l), ([0], .row ((celF f).map .tv) false)]
noncomputable abbrev b19_19 (g : Fm) (l : (List ByteArray)) (f : Fm) : Hp := [(b19_12 g), (b19_3 g), b19_2, ([0, 8], .row [.yl [7]] false), b19_4, ([6], .dfr), ([5], .row (flat encStr l) false), ([0, 4], .row ((celF f).map .tv) false), (b19_5 l), ([0], .row ((celF f).map .tv) false)]
noncomputable abbrev b19_20 (g : Fm) (l : (List ByteArray)) (f : Fm) : Hp := [(b19_15 g l), (b19_3 g), b19_2, ([0, 8], .row [.yl [7]] false), b19_1, ([6], .dfr), ([0, 4], .row ((celF f).map .tv) false), (b19_14 g l), ([0], .row ((celF f).map .tv) false)]
noncomputable abbrev b19_21 (g : Fm) (i : Nat) (b : (List ByteArray)) (f : Fm) : Hp := [(b19_9 g i), (b19_13 b), (b19_3 g), b19_2, ([0, 8], .row [.yl [7]] false), b19_1, ([6], .dfr), ([0, 4], .row ((celF f).map .tv) false), (b19_11 b), ([0], .row ((celF f).map .tv) false)]
noncomputable abbrev b19_22 (l : (List ByteArray)) (g : Fm) (f : Fm) : Hp := [(b19_17 l g), (b19_3 g), b19_2, ([0, 8], .row [.yl [7]] false), b19_1, ([6], .dfr), ([0, 4], .row ((celF f).map .tv) false), (b19_16 l g), ([0], .row ((celF f).map .tv) false)]
noncomputable abbrev b19_23 (b : (List ByteArray)) (g : Fm) (f : Fm) : Hp := [(b19_13 b), (b19_3 g), b19_2, ([0, 8], .row [.yl [7]] false), b19_1, ([6], .dfr), ([0, 4], .row ((celF f).map .tv) false), (b19_11 b), ([0], .row ((celF f).map .tv) false)]
noncomputable abbrev b19_24 (f : Fm) : Hp := [([0, 4], .row ((celF f).map .tv) false), ([2], .row [.tv .nils] false), ([0], .row ((celF f).map .tv) false)]
noncomputable abbrev b19_25 (g : Fm) (l : (List ByteArray)) (f : Fm) : Hp := [(b19_12 g), (b19_3 g), b19_2, ([0, 8], .row [.yl [7]] false), b19_1, ([6], .dfr), ([5], .row (flat encStr l) false), ([0, 4], .row ((celF f).map .tv) false), (b19_5 l), ([0], .row ((celF f).map .tv) false)]
noncomputable abbrev b19_26 (g : Fm) (l : (List ByteArray)) (f : Fm) : Hp := [(b19_12 g), (b19_3 g), b19_2, ([0, 8], .row [.yl [7]] false), b19_4, ([6], .dfr), ([5], .row (flat encStr l) true), ([0, 4], .row ((celF f).map .tv) false), (b19_5 l), ([0], .row ((celF f).map .tv) false)]
noncomputable abbrev b19_27 (f : Fm) : Hp := [([2], .row [.tv .nils] false), ([0], .row ((celF f).map .tv) false)]
noncomputable abbrev b19_28 (g : Fm) (i : Nat) (b : (List ByteArray)) (f : Fm) : Hp := [b19_2, ([0, 8], .row [.yl [7]] false), b19_1, ([6], .dfr), (b19_8 g i b), ([0, 4], .row ((celF f).map .tv) false), (b19_6 g i b), ([0], .row ((celF f).map .tv) false), (b19_9 g i), (b19_3 g)]
noncomputable abbrev b19_29 (f : Fm) : Hp := [b19_2, ([0, 8], .row [.yl [7]] false), b19_1, ([6], .dfr), (b19_10 f), ([0, 4], .row ((celF f).map .tv) false), (b19_7 f), ([0], .row ((celF f).map .tv) false)]
noncomputable abbrev b19_30 (g : Fm) (i : Nat) (b : (List ByteArray)) (f : Fm) : Hp := [b19_2, ([0, 8], .row [.yl [7]] false), b19_1, ([6], .dfr), ([0, 10, 6, 8], .row (flat encStr (namesF (g.ks.getD i Fm.z) b)) false), ([0, 4], .row ((celF f).map .tv) false), ([2], .row [.sl [0, 10, 6, 8] 1 0 (namesF (g.ks.getD i Fm.z) b).length] false), ([0], .row ((celF f).map .tv) false), (b19_3 g)]
noncomputable abbrev b19_31 (f : Fm) : Hp := [b19_2, ([0, 8], .row [.yl [7]] false), b19_1, ([6], .dfr), ([5], .row [] false), ([0, 4], .row ((celF f).map .tv) false), ([2], .row [.sl [5] 1 0 0] false), ([0], .row ((celF f).map .tv) false)]
noncomputable abbrev b19_32 (g : Fm) (i : Nat) (b : (List ByteArray)) (f : Fm) : Hp := [b19_2, ([0, 8], .row [.yl [7]] false), b19_1, ([6], .dfr), ([1000, 6, 8], .row (flat encStr (namesF (g.ks.getD i Fm.z) b)) false), ([0, 4], .row ((celF f).map .tv) false), ([2], .row [.sl [1000, 6, 8] 1 0 (namesF (g.ks.getD i Fm.z) b).length] false), ([0], .row ((celF f).map .tv) false)]
noncomputable abbrev b19_33 (b : (List ByteArray)) (f : Fm) : Hp := [b19_2, ([0, 8], .row [.yl [7]] false), b19_1, ([6], .dfr), ([5], .row (flat encStr b) false), ([0, 4], .row ((celF f).map .tv) false), ([2], .row [.sl [5] 1 0 b.length] false), ([0], .row ((celF f).map .tv) false)]
noncomputable abbrev b19_34 (l : (List ByteArray)) (f : Fm) : Hp := [b19_2, ([0, 8], .row [.yl [7]] false), b19_1, ([6], .dfr), ([5], .row (flat encStr l) false), ([0, 4], .row ((celF f).map .tv) false), (b19_5 l), ([0], .row ((celF f).map .tv) false)]
noncomputable abbrev b19_35 (b : (List ByteArray)) (f : Fm) : Hp := [b19_2, ([0, 8], .row [.yl [7]] false), b19_1, ([6], .dfr), (b19_13 b), ([0, 4], .row ((celF f).map .tv) false), (b19_11 b), ([0], .row ((celF f).map .tv) false)]
theorem c19 (f : Fm) (hl : nF f ≤ 1000000) : PureCall Tryd.prog 19 [agF f] (.tv (.sli 1 ((namesF f []).map encStr))) := by
  refine walk0 (fn := Tryd.f19) [.tmp 2] Tryd.func19 rfl (by kernel_rfl) rfl (by kernel_rfl) (by kernel_rfl) ?_
  change AT _ _ _ ⟨[(0, agF f)], [], [], 0⟩
  refine at_B [1] [] [] [(1000000, .any), (1, .ptr [0] 0)] [([0], .row ((celF f).map .tv) false)] 2 (by kernel_rfl) ?_ ?_
  · exact trivial
  refine at_B [1, 3] [] [] [(1000000, .any), (1, .ptr [0] 0), (3, .ptr [2] 0)] (b19_27 f) 3 (by kernel_rfl) ?_ ?_
  · exact trivial
  refine at_seq ?_
  refine at_B [3, 6] [.std, .retH (.fn (.func 75) [.ptr [0, 4] 0]) (b19_24 f)] [CallOK Tryd.prog 49 [agF f] (b19_27 f) [4] (fun v1 H1 => v1 = (.fn (.func 75) [.ptr [0, 4] 0]) ∧ H1 = (b19_24 f))] [(1000000, .any), (3, .ptr [2] 0), (6, .fn (.func 75) [.ptr [0, 4] 0])] (b19_24 f) 5 (by kernel_rfl) ?_ ?_
  · refine ⟨?_, trivial⟩
    · refine call_in (fn := Tryd.f49) [.tmp 2] Tryd.func49 rfl (by kernel_rfl) rfl ?_
      change AT _ _ _ ⟨[(0, agF f)], (b19_27 f), [4], 0⟩
      refine at_B [1] [] [] [(1000000, .any), (1, .ptr [0, 4] 0)] (b19_24 f) 2 (by kernel_rfl) ?_ ?_
      · exact trivial
      refine at_B [2] [] [] [(1000000, .any), (2, .fn (.func 75) [.ptr [0, 4] 0])] (b19_24 f) 4 (by kernel_rfl) ?_ ?_
      · exact trivial
      refine at_ret ?_
      exact fin_in (.inr rfl) [[0, 4], [2], [0]] (.fn (.func 75) [.ptr [0, 4] 0]) (b19_24 f) (by kernel_rfl) rfl (by kernel_rfl)
  refine at_block ?_
  refine at_keepB [3, 6] [(1000000, .any), (3, .ptr [2] 0), (6, .fn (.func 75) [.ptr [0, 4] 0])] (by kernel_rfl) ?_
  refine at_pre (Gh.ownc [2] 0 1 _ false rfl rfl) ?_
  change AT _ _ _ ⟨[(1000000, .any), (3, .ptr [2] 0), (6, .fn (.func 75) [.ptr [0, 4] 0])], [([5], .row [] false), ([0, 4], .row ((celF f).map .tv) false), ([2], .row [.sl [5] 1 0 0] false), ([0], .row ((celF f).map .tv) false)], [], 6⟩
  refine at_rf 75 [.ptr [0, 4] 0] (.tup []) [b19_1, ([6], .dfr), (b19_10 f), ([0, 4], .row ((celF f).map .tv) false), (b19_7 f), ([0], .row ((celF f).map .tv) false)] [(1000000, .any), (3, .ptr [2] 0), (6, .fn (.func 75) [.ptr [0, 4] 0])] 24 [7] (fcode Tryd.f19 [1, 1, 0, 1, 1, 0]) (fcode Tryd.f19 [1, 1, 0, 1, 1, 1]) [3, 6] [[6], [1000, 6, 8], [0, 4], [2], [0]] [(1000000, .ds [.ptr [6] 0]), (3, .ptr [2] 0), (6, .fn (.func 75) [.ptr [0, 4] 0])] [([6], .dfr), (b19_10 f), ([0, 4], .row ((celF f).map .tv) false), (b19_7 f), ([0], .row ((celF f).map .tv) false)] (by kernel_rfl) rfl (by kernel_rfl) ?_ (by kernel_rfl) (by kernel_rfl) rfl (by kernel_rfl) ?_
  · refine call_in (fn := Tryd.f75) [] Tryd.func75 rfl (by kernel_rfl) rfl ?_
    change AT _ _ _ ⟨[(0, .yl [7]), (1, .ptr [0, 4] 0)], [b19_1, ([6], .dfr), ([5], .row [] false), ([0, 4], .row ((celF f).map .tv) false), ([2], .row [.sl [5] 1 0 0] false), ([0], .row ((celF f).map .tv) false)], [8], 0⟩
    refine at_B [1, 2] [] [] [(1000000, .any), (1, .ptr [0, 4] 0), (2, .ptr [0, 8] 0)] [([0, 8], .row [.yl [7]] false), b19_1, ([6], .dfr), ([5], .row [] false), ([0, 4], .row ((celF f).map .tv) false), ([2], .row [.sl [5] 1 0 0] false), ([0], .row ((celF f).map .tv) false)] 1 (by kernel_rfl) ?_ ?_
    · exact trivial
    refine at_B [1, 2, 3] [] [] [(1000000, .any), (1, .ptr [0, 4] 0), (2, .ptr [0, 8] 0), (3, .ptr [1, 8] 0)] [([1, 8], .row [.tv .nilf] false), ([0, 8], .row [.yl [7]] false), b19_1, ([6], .dfr), ([5], .row [] false), ([0, 4], .row ((celF f).map .tv) false), ([2], .row [.sl [5] 1 0 0] false), ([0], .row ((celF f).map .tv) false)] 2 (by kernel_rfl) ?_ ?_
    · exact trivial
    refine at_B [1, 3] [] [] [(1000000, .any), (1, .ptr [0, 4] 0), (3, .ptr [1, 8] 0)] (b19_31 f) 4 (by kernel_rfl) ?_ ?_
    · exact trivial
    refine at_Bl [] [.std, .std, .retH (.tv (.bool true)) (b19_29 f)] [CallOK Tryd.prog 76 [agF f, .ptr [0, 8] 0, .ptr [1, 8] 0] (b19_31 f) [6, 8] (fun v1 H1 => v1 = (.tv (.bool true)) ∧ H1 = (b19_29 f))] [(1000000, .any)] (b19_29 f) 7 (by kernel_rfl) ?_ ?_
    · refine ⟨?_, trivial⟩
      · have vis : ∀ (g : Fm) (l : List ByteArray), l.length + nF g ≤ 1000000 → CallOK Tryd.prog 76 [agF g, .ptr [0, 8] 0, .ptr [1, 8] 0] (b19_34 l f) [6, 8] (fun v1 H1 => v1 = (.tv (.bool true)) ∧ H1 = [b19_2, ([0, 8], .row [.yl [7]] false), b19_1, ([6], .dfr), (b19_15 g l), ([0, 4], .row ((celF f).map .tv) false), (b19_14 g l), ([0], .row ((celF f).map .tv) false)]) := by
          refine Fm.ind (fun g ih => ?_)
          intro l hl
          have hn1 := nF_eq g
          refine call_in (fn := Tryd.f76) [.tmp 4] Tryd.func76 rfl (by kernel_rfl) rfl ?_
          change AT _ _ _ ⟨[(0, agF g), (1, .ptr [0, 8] 0), (2, .ptr [1, 8] 0)], (b19_34 l f), [6, 8], 0⟩
          refine at_B [1, 2, 3] [] [] [(1000000, .any), (1, .ptr [0, 8] 0), (2, .ptr [1, 8] 0), (3, .ptr [0, 6, 8] 0)] (b19_18 g l f) 2 (by kernel_rfl) ?_ ?_
          · exact trivial
          refine at_seq ?_
          cases hs_51 : (((decide (g.op = (4 : Int))) && (!(List.any l (eqS g.nm)))))
          · have qhs_51 := hs_51
            (try simp only [brs] at qhs_51)
            refine at_B [2, 3, 10] [.std, .std, .retY (.tv (.bool true)) (b19_18 g l f)] [YldOK Tryd.prog [7] [agF g] (b19_18 g l f) [4, 6, 8] (fun v1 H1 => v1 = (.tv (.bool true)) ∧ H1 = (b19_18 g l f))] [(1000000, .any), (2, .ptr [1, 8] 0), (3, .ptr [0, 6, 8] 0), (10, .tv (.bool false))] (b19_18 g l f) 6 (by kernel_rfl) ?_ ?_
            · refine ⟨?_, trivial⟩
              · refine yld_in [(1000000, .any), (3, .ptr [2] 0), (6, .fn (.func 75) [.ptr [0, 4] 0])] 24 [7] (fcode Tryd.f19 [1, 1, 0, 1, 1, 0]) (fcode Tryd.f19 [1, 1, 0, 1, 1, 1]) none (by kernel_rfl) (by kernel_rfl) (fun lp => ?_)
                change AT _ (fcode Tryd.f19 [1, 1, 0, 1, 1, 0]) _ ⟨[(1000000, .any), (7, agF g), (1000000, .any), (3, .ptr [2] 0), (6, .fn (.func 75) [.ptr [0, 4] 0])], (b19_18 g l f), [4, 6, 8], 0⟩
                refine at_Bl [3, 4] [] [] [(1000000, .any), (3, .ptr [2] 0), (4, .ptr [0, 4, 6, 8] 0)] (b19_25 g l f) 2 (by kernel_rfl) ?_ ?_
                · exact trivial
                refine asg_end [(1000000, .any), (3, .ptr [2] 0), (6, .fn (.func 75) [.ptr [0, 4] 0])] 24 [7] (fcode Tryd.f19 [1, 1, 0, 1, 1, 0]) none (by kernel_rfl) (H1 := (b19_19 g l f)) (by kernel_rfl) ?_
                refine at_block ?_
                refine at_B [3, 4, 17] [.std, .std, .std, .std, .std, .std, .std, .retS (.tv (.bool (List.any l (eqS g.nm))))] [((decide (g.op = (4 : Int))) = true) → StabCall Tryd.prog 46 [.sl [5] 1 0 l.length, .tv (.str g.nm)] (b19_19 g l f) (.tv (.bool (List.any l (eqS g.nm))))] [(1000000, .any), (3, .ptr [2] 0), (4, .ptr [0, 4, 6, 8] 0), (17, .tv (.bool ((decide (g.op = (4 : Int))) && (!(List.any l (eqS g.nm))))))] (b19_19 g l f) 12 (by kernel_rfl) ?_ ?_
                · exact ⟨fun hg0 => frz_stab (args' := [.tv (.sli 1 (l.map encStr)), .tv (.str g.nm)]) (H0 := (b19_26 g l f)) (frzs_to (by kernel_rfl) (frzs_cons (frz_flat2 (enc := encStr) (l := l) (sz := 1) rfl (fun _ => rfl) (by decide) (by first | rfl | (simp only [lns]; done) | (simp only [lns]; omega))) (frzs_cons (frzV_tv) (frzs_nil)))) (by kernel_rfl) (c46 l g.nm), trivial⟩
                refine at_cond (b := ((decide (g.op = (4 : Int))) && (!(List.any l (eqS g.nm))))) rfl rfl (fun h => ?_) (fun h => ?_)
                · exact absurd (h.symm.trans hs_51) (by decide)
                clear h
                refine at_skip ?_
                exact round_end (q := [4, 6, 8]) [[0, 6, 8], [1, 8], [0, 8], [7], [6], [5], [0, 4], [2], [0]] [(1000000, .any), (3, .ptr [2] 0), (6, .fn (.func 75) [.ptr [0, 4] 0])] 24 [7] (fcode Tryd.f19 [1, 1, 0, 1, 1, 0]) (fcode Tryd.f19 [1, 1, 0, 1, 1, 1]) .busy none (by kernel_rfl) rfl (by kernel_rfl)
            refine at_cond (b := false) rfl rfl (fun h => ?_) (fun h => ?_)
            · cases h
            clear h
            refine at_skip ?_
            change AT _ _ _ _
            refine at_seq ?_
            refine at_B [2, 12, 13, 14] [] [] [(1000000, .any), (2, .ptr [1, 8] 0), (12, .tv (.sli 5 (g.ks.map encF))), (13, .tv (.int .i64 (((g.ks.map encF).length : Nat) : Int))), (14, .tv (.int .i64 0))] (b19_18 g l f) 10 (by kernel_rfl) ?_ ?_
            · exact trivial
            refine at_block ?_
            refine at_len 12 rfl (fun hlen => ?_)
            refine at_loopR (X := Nat × List ByteArray) 1 (fun ((i, b) : Nat × List ByteArray) => [(1000000, .any), (2, .ptr [1, 8] 0), (12, .tv (.sli 5 (g.ks.map encF))), (13, .tv (.int .i64 (((g.ks.map encF).length : Nat) : Int))), (14, .tv (.int .i64 ((i : Nat) : Int)))]) (fun ((i, b) : Nat × List ByteArray) => (b19_23 b g f)) (fun ((i, b) : Nat × List ByteArray) => nmI g l i b) (fun ((i, b) : Nat × List ByteArray) => g.ks.length - i) (0, l) ?_ ?_ ?_
            · exact nmI_start (addS_f hs_51) (by simpa using hl)
            · exact RnOK.perm (H1 := [(b19_3 g), b19_2, ([0, 8], .row [.yl [7]] false), b19_1, ([6], .dfr), ([0, 10, 6, 8], .row (flat encStr l) false), ([0, 4], .row ((celF f).map .tv) false), ([2], .row [.sl [0, 10, 6, 8] 1 0 l.length] false), ([0], .row ((celF f).map .tv) false)]) [[0, 10, 6, 8], [0, 6, 8], [1, 8], [0, 8], [7], [6], [0, 4], [2], [0]] (by kernel_rfl) (rn_ok [([5], [0, 10, 6, 8]), ([0, 6, 8], [0, 6, 8]), ([1, 8], [1, 8]), ([0, 8], [0, 8]), ([7], [7]), ([6], [6]), ([0, 4], [0, 4]), ([2], [2]), ([0], [0])] [[5]] [2, 12, 13, 14] (⟨clO_flat _ _ _, trivial⟩) (by kernel_rfl))
            · rintro ⟨i, b⟩ hinv
              dsimp only at hinv ⊢
              have hx1 := hinv.1
              refine at_B [2, 12, 13, 14, 15] [] [] [(1000000, .any), (2, .ptr [1, 8] 0), (12, .tv (.sli 5 (g.ks.map encF))), (13, .tv (.int .i64 (((g.ks.map encF).length : Nat) : Int))), (14, .tv (.int .i64 ((i : Nat) : Int))), (15, .tv (.bool (decide (((i : Nat) : Int) < (((g.ks.map encF).length : Nat) : Int)))))] (b19_23 b g f) 2 (by kernel_rfl) ?_ ?_
              · exact trivial
              refine at_seq ?_
              refine at_cond (b := (decide (((i : Nat) : Int) < (((g.ks.map encF).length : Nat) : Int)))) rfl rfl (fun hc15_5 => ?_) (fun hc15_5 => ?_)
              · have q15_5 := hc15_5
                (try simp only [brs] at q15_5)
                refine at_skip ?_
                change AT _ _ _ _
                refine at_seq ?_
                refine at_block ?_
                refine at_B [2, 6, 12, 13, 14] [.eq (.tv (.ptr (celF (g.ks.getD i Fm.z))))] [(0 ≤ ((i : Nat) : Int) ∧ ((i : Nat) : Int) < ((((g.ks.map encF) : List (List TV)).length : Nat) : Int)), (.tv (.ptr (rowAt (g.ks.map encF) ((i : Nat) : Int))) : AV) = .tv (.ptr (celF (g.ks.getD i Fm.z)))] [(1000000, .any), (2, .ptr [1, 8] 0), (6, .ptr [4, 10, 6, 8] 0), (12, .tv (.sli 5 (g.ks.map encF))), (13, .tv (.int .i64 (((g.ks.map encF).length : Nat) : Int))), (14, .tv (.int .i64 ((i : Nat) : Int)))] (b19_21 g i b f) 6 (by kernel_rfl) ?_ ?_
                · exact ⟨by (try simp only [lns] at *); omega, congrArg (fun c => AV.tv (.ptr c)) (row_F g.ks ((i : Nat) : Int) (by (try simp only [brs, lns] at *); omega)), trivial⟩
                refine at_B [2, 12, 13, 14, 21] [.std, .std, .retH (.tv (.bool true)) (b19_28 g i b f)] [CallOK Tryd.prog 76 [agF (g.ks.getD i Fm.z), .ptr [0, 8] 0, .ptr [1, 8] 0] (b19_21 g i b f) [8, 10, 6, 8] (fun v1 H1 => v1 = (.tv (.bool true)) ∧ H1 = (b19_28 g i b f))] [(1000000, .any), (2, .ptr [1, 8] 0), (12, .tv (.sli 5 (g.ks.map encF))), (13, .tv (.int .i64 (((g.ks.map encF).length : Nat) : Int))), (14, .tv (.int .i64 ((i : Nat) : Int))), (21, .tv (.bool false))] (b19_28 g i b f) 10 (by kernel_rfl) ?_ ?_
                · exact ⟨call_fr (args := [agF (g.ks.getD i Fm.z), .ptr [0, 8] 0, .ptr [1, 8] 0]) (H := (b19_33 b f)) (H2 := (b19_35 b f)) (H' := (b19_32 g i b f)) (H2' := [b19_2, ([0, 8], .row [.yl [7]] false), b19_1, ([6], .dfr), (b19_8 g i b), ([0, 4], .row ((celF f).map .tv) false), (b19_6 g i b), ([0], .row ((celF f).map .tv) false)]) (q := [6, 8]) (v := .tv (.bool true)) [[1, 8], [0, 8], [7], [6], [0, 10, 6, 8], [0, 4], [2], [0]] [([1, 8], [1, 8]), ([0, 8], [0, 8]), ([7], [7]), ([6], [6]), ([0, 10, 6, 8], [5]), ([0, 4], [0, 4]), ([2], [2]), ([0], [0])] [([1, 8], [1, 8]), ([0, 8], [0, 8]), ([7], [7]), ([6], [6]), ([1000, 6, 8], [1000, 8, 10, 6, 8]), ([0, 4], [0, 4]), ([2], [2]), ([0], [0])] [[0, 10, 6, 8]] [[1000, 6, 8]] (ih (g.ks.getD i Fm.z) (getD_mem (by omega)) b (nmI_kid hinv (by omega))) (by kernel_rfl) (by kernel_rfl) (by kernel_rfl) (⟨clO_flat _ _ _, trivial⟩) (by kernel_rfl) (by kernel_rfl) (⟨clO_flat _ _ _, trivial⟩) (by kernel_rfl) (by kernel_rfl), trivial⟩
                refine at_cond (b := false) rfl rfl (fun h => ?_) (fun h => ?_)
                · cases h
                clear h
                refine at_skip ?_
                change AT _ _ _ _
                refine at_Bl [2, 12, 13, 14] [.eq (.tv (.int .i64 ((i + 1 : Nat) : Int)))] [(.tv (.int .i64 (wr (((i : Nat) : Int) + 1))) : AV) = .tv (.int .i64 ((i + 1 : Nat) : Int))] [(1000000, .any), (2, .ptr [1, 8] 0), (12, .tv (.sli 5 (g.ks.map encF))), (13, .tv (.int .i64 (((g.ks.map encF).length : Nat) : Int))), (14, .tv (.int .i64 ((i + 1 : Nat) : Int)))] (b19_28 g i b f) 12 (by kernel_rfl) ?_ ?_
                · exact ⟨succ_av i (by (try simp only [lns] at *); omega), trivial⟩
                refine ⟨rfl, (i + 1, (namesF (g.ks.getD i Fm.z) b)), ?_, ?_, ?_⟩
                · (try dsimp only); omega
                · (try dsimp only); exact nmI_step hinv (by omega)
                · exact RnOK.perm (H1 := (b19_30 g i b f)) [[0, 10, 6, 8], [0, 6, 8], [1, 8], [0, 8], [7], [6], [0, 4], [2], [0]] (by kernel_rfl) (rn_ok [([1000, 8, 10, 6, 8], [0, 10, 6, 8]), ([0, 6, 8], [0, 6, 8]), ([1, 8], [1, 8]), ([0, 8], [0, 8]), ([7], [7]), ([6], [6]), ([0, 4], [0, 4]), ([2], [2]), ([0], [0])] [[1000, 8, 10, 6, 8]] [2, 12, 13, 14] (⟨clO_flat _ _ _, trivial⟩) (by kernel_rfl))
              · have q15_5 := hc15_5
                (try simp only [brs] at q15_5)
                have hsub : b = (namesF g l) := nmI_end hinv (by omega)
                subst hsub
                refine at_exit ?_
                change AT _ _ _ _
                refine at_keepB [2, 12, 13, 14, 15] [(1000000, .any), (2, .ptr [1, 8] 0), (12, .tv (.sli 5 (g.ks.map encF))), (13, .tv (.int .i64 (((g.ks.map encF).length : Nat) : Int))), (14, .tv (.int .i64 ((i : Nat) : Int))), (15, .tv (.bool (decide (((i : Nat) : Int) < (((g.ks.map encF).length : Nat) : Int)))))] (by kernel_rfl) ?_
                refine at_pre (Gh.ren [0, 10, 6, 8] 1000 [([0, 10, 6, 8], [1000, 6, 8]), ([0, 6, 8], [0, 6, 8]), ([1, 8], [1, 8]), ([0, 8], [0, 8]), ([7], [7]), ([6], [6]), ([0, 4], [0, 4]), ([2], [2]), ([0], [0])] [[0, 10, 6, 8]] (by kernel_rfl) (⟨clO_flat _ _ _, trivial⟩) (H' := (b19_20 g l f)) (by kernel_rfl) (T' := [(1000000, .any), (2, .ptr [1, 8] 0), (12, .tv (.sli 5 (g.ks.map encF))), (13, .tv (.int .i64 (((g.ks.map encF).length : Nat) : Int))), (14, .tv (.int .i64 ((i : Nat) : Int))), (15, .tv (.bool (decide (((i : Nat) : Int) < (((g.ks.map encF).length : Nat) : Int)))))]) (by kernel_rfl) (by kernel_rfl)) ?_
                refine at_B [4] [] [] [(1000000, .any), (4, .tv (.bool true))] (b19_20 g l f) 1002 (by kernel_rfl) ?_ ?_
                · exact trivial
                refine at_ret ?_
                exact fin_inP (.inr rfl) [[1, 8], [0, 8], [7], [6], [1000, 6, 8], [0, 4], [2], [0]] (.tv (.bool true)) (b19_20 g l f) (by kernel_rfl) rfl (by kernel_rfl)
          · have qhs_51 := hs_51
            (try simp only [brs] at qhs_51)
            refine at_B [2, 3, 10] [.std, .std, .retY (.tv (.bool true)) (b19_22 l g f)] [YldOK Tryd.prog [7] [agF g] (b19_18 g l f) [4, 6, 8] (fun v1 H1 => v1 = (.tv (.bool true)) ∧ H1 = (b19_22 l g f))] [(1000000, .any), (2, .ptr [1, 8] 0), (3, .ptr [0, 6, 8] 0), (10, .tv (.bool false))] (b19_22 l g f) 6 (by kernel_rfl) ?_ ?_
            · refine ⟨?_, trivial⟩
              · refine yld_in [(1000000, .any), (3, .ptr [2] 0), (6, .fn (.func 75) [.ptr [0, 4] 0])] 24 [7] (fcode Tryd.f19 [1, 1, 0, 1, 1, 0]) (fcode Tryd.f19 [1, 1, 0, 1, 1, 1]) none (by kernel_rfl) (by kernel_rfl) (fun lp => ?_)
                change AT _ (fcode Tryd.f19 [1, 1, 0, 1, 1, 0]) _ ⟨[(1000000, .any), (7, agF g), (1000000, .any), (3, .ptr [2] 0), (6, .fn (.func 75) [.ptr [0, 4] 0])], (b19_18 g l f), [4, 6, 8], 0⟩
                refine at_Bl [3, 4] [] [] [(1000000, .any), (3, .ptr [2] 0), (4, .ptr [0, 4, 6, 8] 0)] (b19_25 g l f) 2 (by kernel_rfl) ?_ ?_
                · exact trivial
                refine asg_end [(1000000, .any), (3, .ptr [2] 0), (6, .fn (.func 75) [.ptr [0, 4] 0])] 24 [7] (fcode Tryd.f19 [1, 1, 0, 1, 1, 0]) none (by kernel_rfl) (H1 := (b19_19 g l f)) (by kernel_rfl) ?_
                refine at_block ?_
                refine at_B [3, 4, 17] [.std, .std, .std, .std, .std, .std, .std, .retS (.tv (.bool (List.any l (eqS g.nm))))] [((decide (g.op = (4 : Int))) = true) → StabCall Tryd.prog 46 [.sl [5] 1 0 l.length, .tv (.str g.nm)] (b19_19 g l f) (.tv (.bool (List.any l (eqS g.nm))))] [(1000000, .any), (3, .ptr [2] 0), (4, .ptr [0, 4, 6, 8] 0), (17, .tv (.bool ((decide (g.op = (4 : Int))) && (!(List.any l (eqS g.nm))))))] (b19_19 g l f) 12 (by kernel_rfl) ?_ ?_
                · exact ⟨fun hg0 => frz_stab (args' := [.tv (.sli 1 (l.map encStr)), .tv (.str g.nm)]) (H0 := (b19_26 g l f)) (frzs_to (by kernel_rfl) (frzs_cons (frz_flat2 (enc := encStr) (l := l) (sz := 1) rfl (fun _ => rfl) (by decide) (by first | rfl | (simp only [lns]; done) | (simp only [lns]; omega))) (frzs_cons (frzV_tv) (frzs_nil)))) (by kernel_rfl) (c46 l g.nm), trivial⟩
                refine at_cond (b := ((decide (g.op = (4 : Int))) && (!(List.any l (eqS g.nm))))) rfl rfl (fun h => ?_) (fun h => ?_)
                rotate_left
                · exact absurd (h.symm.trans hs_51) (by decide)
                clear h
                refine at_Bl [] [.std, .std, .std, .eq (.tv (.sli 1 (([g.nm] : List _).map encStr))), .eff (.sl [16, 4, 6, 8] 1 0 (l ++ [g.nm]).length) (.row (flat encStr (l ++ [g.nm])) false)] [(.tv (.sli 1 [[.str g.nm]]) : AV) = .tv (.sli 1 (([g.nm] : List _).map encStr)), (1 = 1 ∧ 0 = 0 ∧ (flat encStr l).length = l.length * 1 ∧ l.length + 1 ≤ 9223372036854775807 ∧ (l.length + 1) * 16 ≤ 140737488355328), (.sl [16, 4, 6, 8] 1 0 (l.length + 1) : AV) = .sl [16, 4, 6, 8] 1 0 (l ++ [g.nm]).length, (.row ((flat encStr l) ++ (List.map AV.tv (List.flatten (([g.nm] : List _).map encStr)))) false : AO) = .row (flat encStr (l ++ [g.nm])) false] [(1000000, .any)] [(b19_17 l g), (b19_12 g), (b19_3 g), b19_2, ([0, 8], .row [.yl [7]] false), b19_4, ([6], .dfr), ([0, 4], .row ((celF f).map .tv) false), (b19_16 l g), ([0], .row ((celF f).map .tv) false)] 18 (by kernel_rfl) ?_ ?_
                · exact ⟨rfl, ⟨rfl, rfl, flat_len (sz := 1) (fun _ => rfl) _, by (try simp only [brs, lns] at *); omega, by (try simp only [brs, lns] at *); omega⟩, by simp, congrArg (AO.row · false) (flat_app (rfl)), trivial⟩
                exact round_end (q := [4, 6, 8]) [[16, 4, 6, 8], [0, 6, 8], [1, 8], [0, 8], [7], [6], [0, 4], [2], [0]] [(1000000, .any), (3, .ptr [2] 0), (6, .fn (.func 75) [.ptr [0, 4] 0])] 24 [7] (fcode Tryd.f19 [1, 1, 0, 1, 1, 0]) (fcode Tryd.f19 [1, 1, 0, 1, 1, 1]) .busy none (by kernel_rfl) rfl (by kernel_rfl)
            refine at_cond (b := false) rfl rfl (fun h => ?_) (fun h => ?_)
            · cases h
            clear h
            refine at_skip ?_
            change AT _ _ _ _
            refine at_seq ?_
            refine at_B [2, 12, 13, 14] [] [] [(1000000, .any), (2, .ptr [1, 8] 0), (12, .tv (.sli 5 (g.ks.map encF))), (13, .tv (.int .i64 (((g.ks.map encF).length : Nat) : Int))), (14, .tv (.int .i64 0))] (b19_22 l g f) 10 (by kernel_rfl) ?_ ?_
            · exact trivial
            refine at_block ?_
            refine at_len 12 rfl (fun hlen => ?_)
            refine at_loopR (X := Nat × List ByteArray) 1 (fun ((i, b) : Nat × List ByteArray) => [(1000000, .any), (2, .ptr [1, 8] 0), (12, .tv (.sli 5 (g.ks.map encF))), (13, .tv (.int .i64 (((g.ks.map encF).length : Nat) : Int))), (14, .tv (.int .i64 ((i : Nat) : Int)))]) (fun ((i, b) : Nat × List ByteArray) => (b19_23 b g f)) (fun ((i, b) : Nat × List ByteArray) => nmI g l i b) (fun ((i, b) : Nat × List ByteArray) => g.ks.length - i) (0, (l ++ [g.nm])) ?_ ?_ ?_
            · exact nmI_start (addS_t hs_51) (by simpa using hl)
            · exact rn_ok [([16, 4, 6, 8], [0, 10, 6, 8]), ([0, 6, 8], [0, 6, 8]), ([1, 8], [1, 8]), ([0, 8], [0, 8]), ([7], [7]), ([6], [6]), ([0, 4], [0, 4]), ([2], [2]), ([0], [0])] [[16, 4, 6, 8]] [2, 12, 13, 14] (⟨clO_flat _ _ _, trivial⟩) (by kernel_rfl)
            · rintro ⟨i, b⟩ hinv
              dsimp only at hinv ⊢
              have hx1 := hinv.1
              refine at_B [2, 12, 13, 14, 15] [] [] [(1000000, .any), (2, .ptr [1, 8] 0), (12, .tv (.sli 5 (g.ks.map encF))), (13, .tv (.int .i64 (((g.ks.map encF).length : Nat) : Int))), (14, .tv (.int .i64 ((i : Nat) : Int))), (15, .tv (.bool (decide (((i : Nat) : Int) < (((g.ks.map encF).length : Nat) : Int)))))] (b19_23 b g f) 2 (by kernel_rfl) ?_ ?_
              · exact trivial
              refine at_seq ?_
              refine at_cond (b := (decide (((i : Nat) : Int) < (((g.ks.map encF).length : Nat) : Int)))) rfl rfl (fun hc15_5 => ?_) (fun hc15_5 => ?_)
              · have q15_5 := hc15_5
                (try simp only [brs] at q15_5)
                refine at_skip ?_
                change AT _ _ _ _
                refine at_seq ?_
                refine at_block ?_
                refine at_B [2, 6, 12, 13, 14] [.eq (.tv (.ptr (celF (g.ks.getD i Fm.z))))] [(0 ≤ ((i : Nat) : Int) ∧ ((i : Nat) : Int) < ((((g.ks.map encF) : List (List TV)).length : Nat) : Int)), (.tv (.ptr (rowAt (g.ks.map encF) ((i : Nat) : Int))) : AV) = .tv (.ptr (celF (g.ks.getD i Fm.z)))] [(1000000, .any), (2, .ptr [1, 8] 0), (6, .ptr [4, 10, 6, 8] 0), (12, .tv (.sli 5 (g.ks.map encF))), (13, .tv (.int .i64 (((g.ks.map encF).length : Nat) : Int))), (14, .tv (.int .i64 ((i : Nat) : Int)))] (b19_21 g i b f) 6 (by kernel_rfl) ?_ ?_
                · exact ⟨by (try simp only [lns] at *); omega, congrArg (fun c => AV.tv (.ptr c)) (row_F g.ks ((i : Nat) : Int) (by (try simp only [brs, lns] at *); omega)), trivial⟩
                refine at_B [2, 12, 13, 14, 21] [.std, .std, .retH (.tv (.bool true)) (b19_28 g i b f)] [CallOK Tryd.prog 76 [agF (g.ks.getD i Fm.z), .ptr [0, 8] 0, .ptr [1, 8] 0] (b19_21 g i b f) [8, 10, 6, 8] (fun v1 H1 => v1 = (.tv (.bool true)) ∧ H1 = (b19_28 g i b f))] [(1000000, .any), (2, .ptr [1, 8] 0), (12, .tv (.sli 5 (g.ks.map encF))), (13, .tv (.int .i64 (((g.ks.map encF).length : Nat) : Int))), (14, .tv (.int .i64 ((i : Nat) : Int))), (21, .tv (.bool false))] (b19_28 g i b f) 10 (by kernel_rfl) ?_ ?_
                · exact ⟨call_fr (args := [agF (g.ks.getD i Fm.z), .ptr [0, 8] 0, .ptr [1, 8] 0]) (H := (b19_33 b f)) (H2 := (b19_35 b f)) (H' := (b19_32 g i b f)) (H2' := [b19_2, ([0, 8], .row [.yl [7]] false), b19_1, ([6], .dfr), (b19_8 g i b), ([0, 4], .row ((celF f).map .tv) false), (b19_6 g i b), ([0], .row ((celF f).map .tv) false)]) (q := [6, 8]) (v := .tv (.bool true)) [[1, 8], [0, 8], [7], [6], [0, 10, 6, 8], [0, 4], [2], [0]] [([1, 8], [1, 8]), ([0, 8], [0, 8]), ([7], [7]), ([6], [6]), ([0, 10, 6, 8], [5]), ([0, 4], [0, 4]), ([2], [2]), ([0], [0])] [([1, 8], [1, 8]), ([0, 8], [0, 8]), ([7], [7]), ([6], [6]), ([1000, 6, 8], [1000, 8, 10, 6, 8]), ([0, 4], [0, 4]), ([2], [2]), ([0], [0])] [[0, 10, 6, 8]] [[1000, 6, 8]] (ih (g.ks.getD i Fm.z) (getD_mem (by omega)) b (nmI_kid hinv (by omega))) (by kernel_rfl) (by kernel_rfl) (by kernel_rfl) (⟨clO_flat _ _ _, trivial⟩) (by kernel_rfl) (by kernel_rfl) (⟨clO_flat _ _ _, trivial⟩) (by kernel_rfl) (by kernel_rfl), trivial⟩
                refine at_cond (b := false) rfl rfl (fun h => ?_) (fun h => ?_)
                · cases h
                clear h
                refine at_skip ?_
                change AT _ _ _ _
                refine at_Bl [2, 12, 13, 14] [.eq (.tv (.int .i64 ((i + 1 : Nat) : Int)))] [(.tv (.int .i64 (wr (((i : Nat) : Int) + 1))) : AV) = .tv (.int .i64 ((i + 1 : Nat) : Int))] [(1000000, .any), (2, .ptr [1, 8] 0), (12, .tv (.sli 5 (g.ks.map encF))), (13, .tv (.int .i64 (((g.ks.map encF).length : Nat) : Int))), (14, .tv (.int .i64 ((i + 1 : Nat) : Int)))] (b19_28 g i b f) 12 (by kernel_rfl) ?_ ?_
                · exact ⟨succ_av i (by (try simp only [lns] at *); omega), trivial⟩
                refine ⟨rfl, (i + 1, (namesF (g.ks.getD i Fm.z) b)), ?_, ?_, ?_⟩
                · (try dsimp only); omega
                · (try dsimp only); exact nmI_step hinv (by omega)
                · exact RnOK.perm (H1 := (b19_30 g i b f)) [[0, 10, 6, 8], [0, 6, 8], [1, 8], [0, 8], [7], [6], [0, 4], [2], [0]] (by kernel_rfl) (rn_ok [([1000, 8, 10, 6, 8], [0, 10, 6, 8]), ([0, 6, 8], [0, 6, 8]), ([1, 8], [1, 8]), ([0, 8], [0, 8]), ([7], [7]), ([6], [6]), ([0, 4], [0, 4]), ([2], [2]), ([0], [0])] [[1000, 8, 10, 6, 8]] [2, 12, 13, 14] (⟨clO_flat _ _ _, trivial⟩) (by kernel_rfl))
              · have q15_5 := hc15_5
                (try simp only [brs] at q15_5)
                have hsub : b = (namesF g l) := nmI_end hinv (by omega)
                subst hsub
                refine at_exit ?_
                change AT _ _ _ _
                refine at_keepB [2, 12, 13, 14, 15] [(1000000, .any), (2, .ptr [1, 8] 0), (12, .tv (.sli 5 (g.ks.map encF))), (13, .tv (.int .i64 (((g.ks.map encF).length : Nat) : Int))), (14, .tv (.int .i64 ((i : Nat) : Int))), (15, .tv (.bool (decide (((i : Nat) : Int) < (((g.ks.map encF).length : Nat) : Int)))))] (by kernel_rfl) ?_
                refine at_pre (Gh.ren [0, 10, 6, 8] 1000 [([0, 10, 6, 8], [1000, 6, 8]), ([0, 6, 8], [0, 6, 8]), ([1, 8], [1, 8]), ([0, 8], [0, 8]), ([7], [7]), ([6], [6]), ([0, 4], [0, 4]), ([2], [2]), ([0], [0])] [[0, 10, 6, 8]] (by kernel_rfl) (⟨clO_flat _ _ _, trivial⟩) (H' := (b19_20 g l f)) (by kernel_rfl) (T' := [(1000000, .any), (2, .ptr [1, 8] 0), (12, .tv (.sli 5 (g.ks.map encF))), (13, .tv (.int .i64 (((g.ks.map encF).length : Nat) : Int))), (14, .tv (.int .i64 ((i : Nat) : Int))), (15, .tv (.bool (decide (((i : Nat) : Int) < (((g.ks.map encF).length : Nat) : Int)))))]) (by kernel_rfl) (by kernel_rfl)) ?_
                refine at_B [4] [] [] [(1000000, .any), (4, .tv (.bool true))] (b19_20 g l f) 1002 (by kernel_rfl) ?_ ?_
                · exact trivial
                refine at_ret ?_
                exact fin_inP (.inr rfl) [[1, 8], [0, 8], [7], [6], [1000, 6, 8], [0, 4], [2], [0]] (.tv (.bool true)) (b19_20 g l f) (by kernel_rfl) rfl (by kernel_rfl)
        exact call_fr (args := [agF f, .ptr [0, 8] 0, .ptr [1, 8] 0]) (H := [b19_2, ([0, 8], .row [.yl [7]] false), b19_1, ([6], .dfr), ([5], .row (flat encStr ([] : List ByteArray)) false), ([0, 4], .row ((celF f).map .tv) false), ([2], .row [.sl [5] 1 0 ([] : List ByteArray).length] false), ([0], .row ((celF f).map .tv) false)]) (H2 := (b19_31 f)) (H' := (b19_29 f)) (H2' := (b19_29 f)) (q := [6, 8]) (v := .tv (.bool true)) [[1, 8], [0, 8], [7], [6], [5], [0, 4], [2], [0]] [([1, 8], [1, 8]), ([0, 8], [0, 8]), ([7], [7]), ([6], [6]), ([5], [5]), ([0, 4], [0, 4]), ([2], [2]), ([0], [0])] [([1, 8], [1, 8]), ([0, 8], [0, 8]), ([7], [7]), ([6], [6]), ([1000, 6, 8], [1000, 6, 8]), ([0, 4], [0, 4]), ([2], [2]), ([0], [0])] [] [[1000, 6, 8]] (vis f ([] : List ByteArray) (by simpa using hl)) (by kernel_rfl) (by kernel_rfl) (by kernel_rfl) (trivial) (by kernel_rfl) (by kernel_rfl) (⟨clO_flat _ _ _, trivial⟩) (by kernel_rfl) (by kernel_rfl)
    exact fin_in (.inl rfl) [[7], [6], [1000, 6, 8], [0, 4], [2], [0]] (.tup []) (b19_29 f) (by kernel_rfl) rfl (by kernel_rfl)
  change AT _ _ _ _
  refine at_B [2] [] [] [(1000000, .ds [.ptr [6] 0]), (2, .sl [1000, 6, 8] 1 0 (namesF f ([] : List ByteArray)).length)] [([6], .dfr), (b19_10 f), ([0, 4], .row ((celF f).map .tv) false), (b19_7 f), ([0], .row ((celF f).map .tv) false)] 11 (by kernel_rfl) ?_ ?_
  · exact trivial
  refine at_ret ?_
  refine fin0 (.inr rfl) (.sl [1000, 6, 8] 1 0 (namesF f ([] : List ByteArray)).length) [([6], .gone), (b19_10 f), ([0, 4], .row ((celF f).map .tv) false), (b19_7 f), ([0], .row ((celF f).map .tv) false)] (.tv (.sli 1 ((namesF f ([] : List ByteArray)).map encStr))) (by kernel_rfl) (frzR_one (frz_flat (enc := encStr) (l := (namesF f ([] : List ByteArray))) (sz := 1) rfl (fun _ => rfl) (by decide))) ?_
  refine Le.of_eq ?_
  rfl
end Go.Proofs.YtphmhelkojdlaaaDoor
namespace Go.Proofs.YtphmhelkojdlaaaDoor
open Go.RowKit
set_option linter.unusedSimpArgs false
set_option linter.unusedVariables false
theorem exp_at {s : ByteArray} {g : Fm} {b ks : List Fm} {i : Nat} (hb : b = (ks.take i).map (expF s g) ++ ks.drop i) (h : i < ks.length) : b.getD i Fm.z = ks.getD i Fm.z := by
  subst hb
  have hl : ((ks.take i).map (expF s g)).length = i := by simp; omega
  simp only [List.getD_eq_getElem?_getD]
  rw [List.getElem?_append_right (by omega), hl, Nat.sub_self, List.getElem?_drop, Nat.add_zero]
theorem exp_set {s : ByteArray} {g : Fm} {b ks : List Fm} {i : Nat} (hb : b = (ks.take i).map (expF s g) ++ ks.drop i) (h : i < ks.length) :
    b.set i (expF s g (b.getD i Fm.z)) = (ks.take (i + 1)).map (expF s g) ++ ks.drop (i + 1) := by
  rw [exp_at hb h]
  subst hb
  have hl : ((ks.take i).map (expF s g)).length = i := by simp; omega
  rw [List.set_append_right _ _ (by omega), hl, Nat.sub_self, drop_get ks i Fm.z h, List.set_cons_zero, ← exp_step h]
  simp
end Go.Proofs.YtphmhelkojdlaaaDoor
namespace Go.Proofs.YtphmhelkojdlaaaDoor
open Go.RowKit
set_option maxRecDepth 10000
set_option linter.unusedSimpArgs false
set_option linter.unusedVariables false
theorem c52 (ks : (List Fm)) (hk : ks.length ≤ 1000000) : CallOK Tryd.prog 52 [.tv (.sli 5 (ks.map encF))] [] [1] (fun v1 H1 => v1 = (.sl [1000, 1] 5 0 ks.length) ∧ H1 = [([1000, 1], .row (flat encF ks) false)]) := by
  refine call_in (fn := Tryd.f52) [.tmp 2] Tryd.func52 rfl (by kernel_rfl) rfl ?_
  change AT _ _ _ ⟨[(0, .tv (.sli 5 (ks.map encF)))], [], [1], 0⟩
  refine at_B [0] [] [] [(1000000, .any), (0, .tv (.sli 5 (ks.map encF)))] [] 1 (by kernel_rfl) ?_ ?_
  · exact trivial
  refine at_seq ?_
  refine at_nil 0 rfl (by decide) (fun bn0_1 hbn0_1 => ?_)
  change AT _ _ _ ⟨[(0, .tv (.slin bn0_1 5 (ks.map encF))), (1000000, .any), (0, .tv (.sli 5 (ks.map encF)))], [], [1], 1⟩
  refine at_B [0, 4] [] [] [(1000000, .any), (0, .tv (.slin bn0_1 5 (ks.map encF))), (4, .tv (.bool bn0_1))] [] 3 (by kernel_rfl) ?_ ?_
  · exact trivial
  refine at_cond (b := bn0_1) rfl rfl (fun hc4_1 => ?_) (fun hc4_1 => ?_)
  · have q4_1 := hc4_1
    (try simp only [brs] at q4_1)
    have hks : ks = [] := by simpa using hbn0_1 hc4_1
    refine at_B [2] [] [] [(1000000, .any), (2, .tv .nils)] [] 4 (by kernel_rfl) ?_ ?_
    · exact trivial
    refine at_pre (Gh.own 2 5 rfl (by decide)) ?_
    change AT _ _ _ ⟨[(2, .sl [4, 1] 5 0 0), (1000000, .any), (2, .tv .nils)], [([4, 1], .row [] false)], [1], 5⟩
    refine at_keepB [2] [(1000000, .any), (2, .sl [4, 1] 5 0 0)] (by kernel_rfl) ?_
    refine at_pre (Gh.ren [4, 1] 1000 [([4, 1], [1000, 1])] [] (by kernel_rfl) (trivial) (H' := [([1000, 1], .row [] false)]) (by kernel_rfl) (T' := [(1000000, .any), (2, .sl [1000, 1] 5 0 0)]) (by kernel_rfl) (by kernel_rfl)) ?_
    refine at_ret ?_
    exact fin_in (.inr rfl) [[1000, 1]] (.sl [1000, 1] 5 0 0) [([1000, 1], .row [] false)] (by kernel_rfl) (by rw [hks]; rfl) (by show keepH _ _ = [([1000, 1], .row (flat encF ks) false)]; rw [hks]; kernel_rfl)
  · have q4_1 := hc4_1
    (try simp only [brs] at q4_1)
    refine at_skip ?_
    change AT _ _ _ _
    refine at_keepB [0, 4] [(1000000, .any), (0, .tv (.slin bn0_1 5 (ks.map encF))), (4, .tv (.bool bn0_1))] (by kernel_rfl) ?_
    refine at_pre (Gh.le (T' := [(1000000, .any), (0, .tv (.sli 5 (ks.map encF))), (4, .tv (.bool bn0_1))]) (LeT.cons (Le.refl _) (LeT.cons (Le.slin _ _ _) (LeT.cons (Le.refl _) (LeT.refl _)))) rfl (.refl _)) ?_
    refine at_B [2] [.std, .std, .eff (.sl [5, 1] 5 0 ks.length) (.row (flat encF ks) false)] [(5 = 5 ∧ 0 = 0 ∧ ([] : List AV).length = 0 * 5 ∧ 0 + (ks.map encF).length ≤ 9223372036854775807 ∧ (0 + (ks.map encF).length) * 64 ≤ 140737488355328), (.sl [5, 1] 5 0 (0 + (ks.map encF).length) : AV) = .sl [5, 1] 5 0 ks.length, (.row (([] : List AV) ++ (List.map AV.tv (List.flatten (ks.map encF)))) false : AO) = .row (flat encF ks) false] [(1000000, .any), (2, .sl [5, 1] 5 0 ks.length)] [([5, 1], .row (flat encF ks) false)] 7 (by kernel_rfl) ?_ ?_
    · exact ⟨⟨rfl, rfl, rfl, by (try simp only [brs, lns] at *); omega, by (try simp only [brs, lns] at *); omega⟩, by simp, congrArg (AO.row · false) (flat_mk (by (simp only [List.map, encF_eq]) <;> rfl)), trivial⟩
    refine at_keepB [2] [(1000000, .any), (2, .sl [5, 1] 5 0 ks.length)] (by kernel_rfl) ?_
    refine at_pre (Gh.ren [5, 1] 1000 [([5, 1], [1000, 1])] [[5, 1]] (by kernel_rfl) (⟨clO_flat _ _ _, trivial⟩) (H' := [([1000, 1], .row (flat encF ks) false)]) (by kernel_rfl) (T' := [(1000000, .any), (2, .sl [1000, 1] 5 0 ks.length)]) (by kernel_rfl) (by kernel_rfl)) ?_
    refine at_ret ?_
    exact fin_in (.inr rfl) [[1000, 1]] (.sl [1000, 1] 5 0 ks.length) [([1000, 1], .row (flat encF ks) false)] (by kernel_rfl) rfl (by kernel_rfl)
noncomputable abbrev b23_1 : Id × AO := ([2], .row [.tv (.int .i64 0), .tv (.str ⟨#[]⟩), .tv (.int .i64 0), .tv (.int .i64 0), .tv .nils] false)
noncomputable abbrev b23_2 (f : Fm) : Id × AO := ([0], .row [.tv (.int .i64 f.op), .tv (.str f.nm), .tv (.int .i64 f.cm), .tv (.int .i64 f.n), .sl [1000, 14] 5 0 f.ks.length] false)
noncomputable abbrev b23_3 (f : Fm) (s : ByteArray) (g : Fm) : Id × AO := ([0], .row [.tv (.int .i64 f.op), .tv (.str f.nm), .tv (.int .i64 f.cm), .tv (.int .i64 f.n), .tv (.sli 5 ((f.ks.map (expF s g)).map encF))] false)
noncomputable abbrev b23_4 (f : Fm) (s : ByteArray) (g : Fm) : Id × AO := ([2], .row [.tv (.int .i64 f.op), .tv (.str f.nm), .tv (.int .i64 f.cm), .tv (.int .i64 f.n), .tv (.sli 5 ((f.ks.map (expF s g)).map encF))] false)
noncomputable abbrev b23_5 (f : Fm) (s : ByteArray) (g : Fm) : Id × AO := ([1000, 14], .row (flat encF (f.ks.map (expF s g))) true)
noncomputable abbrev b23_6 (f : Fm) : Id × AO := ([1000, 14], .row (flat encF f.ks) false)
noncomputable abbrev b23_7 (g : Fm) (f : Fm) : Hp := [([2], .row ((celF g).map .tv) false), ([1], .row ((celF g).map .tv) false), ([0], .row ((celF f).map .tv) false)]
noncomputable abbrev b23_8 (b : List Fm) (g : Fm) (f : Fm) : Hp := [([1000, 14], .row (flat encF b) false), b23_1, ([1], .row ((celF g).map .tv) false), (b23_2 f)]
noncomputable abbrev b23_9 (g : Fm) (f : Fm) : Hp := [b23_1, ([1], .row ((celF g).map .tv) false), ([0], .row ((celF f).map .tv) false)]
theorem c23 : ∀ (f : Fm) (s : ByteArray) (g : Fm), (nF f ≤ 1000000) → PureCall Tryd.prog 23 [agF f, .tv (.str s), agF g] (agF (expF s g f)) := by
  refine Fm.ind (fun f ih => ?_)
  intro s g hn
  refine walk0 (fn := Tryd.f23) [.cell 6 24] Tryd.func23 rfl (by kernel_rfl) rfl (by kernel_rfl) (by kernel_rfl) ?_
  change AT _ _ _ ⟨[(0, agF f), (1, .tv (.str s)), (2, agF g)], [], [], 0⟩
  refine at_agF 0 rfl (fun hlen => ?_)
  have hkl := nF_len hn
  refine at_B [1, 3, 5, 6] [] [] [(1000000, .any), (1, .tv (.str s)), (3, .ptr [0] 0), (5, .ptr [1] 0), (6, .ptr [2] 0)] (b23_9 g f) 3 (by kernel_rfl) ?_ ?_
  · exact trivial
  refine at_seq ?_
  refine at_B [1, 3, 5, 6, 17] [] [] [(1000000, .any), (1, .tv (.str s)), (3, .ptr [0] 0), (5, .ptr [1] 0), (6, .ptr [2] 0), (17, .tv (.bool ((decide (f.op = (4 : Int))) && (decide (f.nm = s)))))] (b23_9 g f) 12 (by kernel_rfl) ?_ ?_
  · exact trivial
  refine at_cond (b := ((decide (f.op = (4 : Int))) && (decide (f.nm = s)))) rfl rfl (fun hc17 => ?_) (fun hc17 => ?_)
  · have q17 := hc17
    (try simp only [brs] at q17)
    refine at_B [6] [] [] [(1000000, .any), (6, .ptr [2] 0)] (b23_7 g f) 14 (by kernel_rfl) ?_ ?_
    · exact trivial
    refine at_ret ?_
    refine fin0 (.inr rfl) (agF g) (b23_7 g f) (agF g) (H2 := (b23_7 g f)) (by kernel_rfl) (by kernel_rfl) ?_
    refine Le.of_eq ?_
    rw [expF_eq, hc17]; rfl
  · have q17 := hc17
    (try simp only [brs] at q17)
    refine at_skip ?_
    change AT _ _ _ _
    refine at_B [1, 3, 5, 6] [.std, .std, .retH (.sl [1000, 14] 5 0 f.ks.length) [(b23_6 f), b23_1, ([1], .row ((celF g).map .tv) false), ([0], .row ((celF f).map .tv) false)]] [CallOK Tryd.prog 52 [.tv (.sli 5 (f.ks.map encF))] (b23_9 g f) [14] (fun v1 H1 => v1 = (.sl [1000, 14] 5 0 f.ks.length) ∧ H1 = [(b23_6 f), b23_1, ([1], .row ((celF g).map .tv) false), ([0], .row ((celF f).map .tv) false)])] [(1000000, .any), (1, .tv (.str s)), (3, .ptr [0] 0), (5, .ptr [1] 0), (6, .ptr [2] 0)] [(b23_6 f), b23_1, ([1], .row ((celF g).map .tv) false), (b23_2 f)] 17 (by kernel_rfl) ?_ ?_
    · exact ⟨call_fr (args := [.tv (.sli 5 (f.ks.map encF))]) (H := []) (H2 := []) (H' := [([1000, 1], .row (flat encF f.ks) false)]) (H2' := [(b23_6 f)]) (q := [1]) (v := .sl [1000, 1] 5 0 f.ks.length) [] [] [([1000, 1], [1000, 14])] [] [[1000, 1]] ((c52 f.ks (by (try simp only [brs, lns] at *); omega))) (by kernel_rfl) (by kernel_rfl) (by kernel_rfl) (trivial) (by kernel_rfl) (by kernel_rfl) (⟨clO_flat _ _ _, trivial⟩) (by kernel_rfl) (by kernel_rfl), trivial⟩
    refine at_seq ?_
    refine at_B [1, 3, 5, 6, 24, 25, 26] [] [] [(1000000, .any), (1, .tv (.str s)), (3, .ptr [0] 0), (5, .ptr [1] 0), (6, .ptr [2] 0), (24, .sl [1000, 14] 5 0 f.ks.length), (25, .tv (.int .i64 ((f.ks.length : Nat) : Int))), (26, .tv (.int .i64 0))] [(b23_6 f), b23_1, ([1], .row ((celF g).map .tv) false), (b23_2 f)] 21 (by kernel_rfl) ?_ ?_
    · exact trivial
    refine at_block ?_
    refine at_loopR (X := Nat × List Fm) 0 (fun ((i, b) : Nat × List Fm) => [(1000000, .any), (1, .tv (.str s)), (3, .ptr [0] 0), (5, .ptr [1] 0), (6, .ptr [2] 0), (24, .sl [1000, 14] 5 0 f.ks.length), (25, .tv (.int .i64 ((f.ks.length : Nat) : Int))), (26, .tv (.int .i64 ((i : Nat) : Int)))]) (fun ((i, b) : Nat × List Fm) => (b23_8 b g f)) (fun ((i, b) : Nat × List Fm) => i ≤ f.ks.length ∧ b = (f.ks.take i).map (expF s g) ++ f.ks.drop i) (fun ((i, b) : Nat × List Fm) => f.ks.length - i) (0, f.ks) ?_ ?_ ?_
    · exact ⟨Nat.zero_le _, rfl⟩
    · exact rn_ok [([1000, 14], [1000, 14]), ([2], [2]), ([1], [1]), ([0], [0])] [[1000, 14]] [1, 3, 5, 6, 24, 25, 26] (⟨clO_flat _ _ _, trivial⟩) (by kernel_rfl)
    · rintro ⟨i, b⟩ hinv
      dsimp only at hinv ⊢
      obtain ⟨hx1, hx2⟩ := hinv
      have hbl : b.length = f.ks.length := by rw [hx2]; simp; omega
      refine at_B [1, 3, 5, 6, 24, 25, 26, 27] [] [] [(1000000, .any), (1, .tv (.str s)), (3, .ptr [0] 0), (5, .ptr [1] 0), (6, .ptr [2] 0), (24, .sl [1000, 14] 5 0 f.ks.length), (25, .tv (.int .i64 ((f.ks.length : Nat) : Int))), (26, .tv (.int .i64 ((i : Nat) : Int))), (27, .tv (.bool (decide (((i : Nat) : Int) < ((f.ks.length : Nat) : Int)))))] (b23_8 b g f) 1 (by kernel_rfl) ?_ ?_
      · exact trivial
      refine at_seq ?_
      refine at_cond (b := (decide (((i : Nat) : Int) < ((f.ks.length : Nat) : Int)))) rfl rfl (fun hc27 => ?_) (fun hc27 => ?_)
      · have q27 := hc27
        (try simp only [brs] at q27)
        have hbi : b.getD i Fm.z = f.ks.getD i Fm.z := exp_at hx2 (by omega)
        refine at_skip ?_
        change AT _ _ _ _
        refine at_seq ?_
        refine at_block ?_
        refine at_B [1, 3, 5, 6, 7, 8, 24, 25, 26] [.std, .std, .res (.val (agF (b.getD i Fm.z)) .no) (agF (b.getD i Fm.z)) .no] [(0 ≤ ((i : Nat) : Int) ∧ ((i : Nat) : Int) < ((f.ks.length : Nat) : Int)), evLoad Tryd.prog (b23_8 b g f) 24 (.ptr [1000, 14] ((0 + i) * 5)) = .val (agF (b.getD i Fm.z)) .no, (∃ q, (Res.val (agF (b.getD i Fm.z)) .no) = .need q (.val (agF (b.getD i Fm.z)) .no) ∧ q) ∨ (Res.val (agF (b.getD i Fm.z)) .no) = .val (agF (b.getD i Fm.z)) .no] [(1000000, .any), (1, .tv (.str s)), (3, .ptr [0] 0), (5, .ptr [1] 0), (6, .ptr [2] 0), (7, .tv (.int .i64 ((i : Nat) : Int))), (8, .ptr [4, 21] 0), (24, .sl [1000, 14] 5 0 f.ks.length), (25, .tv (.int .i64 ((f.ks.length : Nat) : Int))), (26, .tv (.int .i64 ((i : Nat) : Int)))] [([4, 21], .row ((celF (b.getD i Fm.z)).map .tv) false), ([1000, 14], .row (flat encF b) false), b23_1, ([1], .row ((celF g).map .tv) false), (b23_2 f)] 7 (by kernel_rfl) ?_ ?_
        · exact ⟨by (try simp only [lns] at *); omega, evLoad_flatE (enc := encF) (sz := 5) (l := b) (i := i) (d := Fm.z) (he := encF_eq) (by kernel_rfl) (by kernel_rfl) rfl (encF_len) (by (try simp only [brs, lns] at *); omega), .inr rfl, trivial⟩
        refine at_Dl [none, some [[0]], none, some [[4, 21]], none, some [[1]], none, none, some [[1000, 14]]] [0, 1, 0, 0, 0, 0, 56, 127, 255] [1, 3, 5, 6, 24, 25, 26] [.std, .std, .std, .std, .std, .std, .ret (agF (expF s g (b.getD i Fm.z))), .std, .res (.val (.tup []) (.upd [1000, 14] (.row (flat encF (b.set i (expF s g (b.getD i Fm.z)))) false))) (.tup []) (.upd [1000, 14] (.row (flat encF (b.set i (expF s g (b.getD i Fm.z)))) false))] [PureCall Tryd.prog 23 [agF (b.getD i Fm.z), .tv (.str s), agF g] (agF (expF s g (b.getD i Fm.z))), (0 ≤ ((i : Nat) : Int) ∧ ((i : Nat) : Int) < ((f.ks.length : Nat) : Int)), evStore Tryd.prog [([4, 21], .row ((celF (b.getD i Fm.z)).map .tv) false), ([1000, 14], .row (flat encF b) false), b23_1, ([1], .row ((celF g).map .tv) false), (b23_2 f)] 24 (.ptr [1000, 14] ((0 + i) * 5)) (agF (expF s g (b.getD i Fm.z))) = .val (.tup []) (.upd [1000, 14] (.row (flat encF (b.set i (expF s g (b.getD i Fm.z)))) false)), (∃ q, (Res.val (.tup []) (.upd [1000, 14] (.row (flat encF (b.set i (expF s g (b.getD i Fm.z)))) false))) = .need q (.val (.tup []) (.upd [1000, 14] (.row (flat encF (b.set i (expF s g (b.getD i Fm.z)))) false))) ∧ q) ∨ (Res.val (.tup []) (.upd [1000, 14] (.row (flat encF (b.set i (expF s g (b.getD i Fm.z)))) false))) = .val (.tup []) (.upd [1000, 14] (.row (flat encF (b.set i (expF s g (b.getD i Fm.z)))) false))] [(1000000, .any), (1, .tv (.str s)), (3, .ptr [0] 0), (5, .ptr [1] 0), (6, .ptr [2] 0), (24, .sl [1000, 14] 5 0 f.ks.length), (25, .tv (.int .i64 ((f.ks.length : Nat) : Int))), (26, .tv (.int .i64 ((i : Nat) : Int)))] [([4, 21], .row ((celF (b.getD i Fm.z)).map .tv) false), ([1000, 14], .row (flat encF (b.set i (expF s g (b.getD i Fm.z)))) false), b23_1, ([1], .row ((celF g).map .tv) false), (b23_2 f)] 16 (by kernel_rfl) ?_ ?_
        · exact ⟨(by rw [hbi]; exact ih _ (getD_mem (by omega)) _ _ (nF_kid hn (getD_mem (by omega)))), by (try simp only [lns] at *); omega, evStore_flatE (enc := encF) (sz := 5) (l := b) (i := i) (a := (expF s g (b.getD i Fm.z))) (he := encF_eq) (by kernel_rfl) rfl (encF_len) (fun _ => rfl) (by (try simp only [brs, lns] at *); omega), .inr rfl, trivial⟩
        change AT _ _ _ _
        refine at_Bl [1, 3, 5, 6, 24, 25, 26] [.eq (.tv (.int .i64 ((i + 1 : Nat) : Int)))] [(.tv (.int .i64 (wr (((i : Nat) : Int) + 1))) : AV) = .tv (.int .i64 ((i + 1 : Nat) : Int))] [(1000000, .any), (1, .tv (.str s)), (3, .ptr [0] 0), (5, .ptr [1] 0), (6, .ptr [2] 0), (24, .sl [1000, 14] 5 0 f.ks.length), (25, .tv (.int .i64 ((f.ks.length : Nat) : Int))), (26, .tv (.int .i64 ((i + 1 : Nat) : Int)))] [([4, 21], .row ((celF (b.getD i Fm.z)).map .tv) false), ([1000, 14], .row (flat encF (b.set i (expF s g (b.getD i Fm.z)))) false), b23_1, ([1], .row ((celF g).map .tv) false), (b23_2 f)] 18 (by kernel_rfl) ?_ ?_
        · exact ⟨succ_av i (by (try simp only [lns] at *); omega), trivial⟩
        refine ⟨rfl, (i + 1, (b.set i (expF s g (b.getD i Fm.z)))), ?_, ?_, ?_⟩
        · (try dsimp only); omega
        · (try dsimp only); exact ⟨by omega, exp_set hx2 (by omega)⟩
        · exact rn_ok [([1000, 14], [1000, 14]), ([2], [2]), ([1], [1]), ([0], [0])] [[1000, 14]] [1, 3, 5, 6, 24, 25, 26] (⟨clO_flat _ _ _, trivial⟩) (by kernel_rfl)
      · have q27 := hc27
        (try simp only [brs] at q27)
        have hxe : i = f.ks.length := by omega
        have hsub : b = (f.ks.map (expF s g)) := by rw [hx2, hxe, List.take_length, List.drop_length, List.append_nil]
        subst hsub
        refine at_exit ?_
        change AT _ _ _ _
        refine at_pre (Gh.freezec (H' := [(b23_5 f s g), b23_1, ([1], .row ((celF g).map .tv) false), (b23_2 f)]) [0] 4 _ false (.sl [1000, 14] 5 0 f.ks.length) (.tv (.sli 5 ((f.ks.map (expF s g)).map encF))) rfl rfl (frzV_to (by kernel_rfl) (frz_flat2 (enc := encF) (l := (f.ks.map (expF s g))) (sz := 5) rfl (encF_len) (by decide) (by first | rfl | (simp only [lns]; done) | (simp only [lns]; omega)))) rfl (H2 := [(b23_5 f s g), b23_1, ([1], .row ((celF g).map .tv) false), (b23_3 f s g)]) (by kernel_rfl)) ?_
        refine at_B [6] [] [] [(1000000, .any), (6, .ptr [2] 0)] [(b23_5 f s g), (b23_4 f s g), ([1], .row ((celF g).map .tv) false), (b23_3 f s g)] 24 (by kernel_rfl) ?_ ?_
        · exact trivial
        refine at_ret ?_
        refine fin0 (.inr rfl) (.agg [.tv (.int .i64 f.op), .tv (.str f.nm), .tv (.int .i64 f.cm), .tv (.int .i64 f.n), .tv (.sli 5 ((f.ks.map (expF s g)).map encF))]) [(b23_5 f s g), (b23_4 f s g), ([1], .row ((celF g).map .tv) false), (b23_3 f s g)] (.agg [.tv (.int .i64 f.op), .tv (.str f.nm), .tv (.int .i64 f.cm), .tv (.int .i64 f.n), .tv (.sli 5 ((f.ks.map (expF s g)).map encF))]) (H2 := [(b23_5 f s g), (b23_4 f s g), ([1], .row ((celF g).map .tv) false), (b23_3 f s g)]) (by kernel_rfl) (by kernel_rfl) ?_
        refine Le.of_eq ?_
        rw [expF_eq, hc17]; rfl
end Go.Proofs.YtphmhelkojdlaaaDoor
namespace Go.Proofs.YtphmhelkojdlaaaDoor
open Go.RowKit
set_option linter.unusedSimpArgs false
set_option linter.unusedVariables false
theorem cntFs_ok {l : List Fm} (h : ∀ k ∈ l, ∀ m : Int, 0 ≤ m → m ≤ 1000000 → 1 ≤ cntF k m ∧ cntF k m ≤ m + 1 ∧ (cntF k m ≤ m → cntF k m = (nF k : Int))) :
    ∀ (m c : Int), 0 ≤ m → m ≤ 1000000 → 1 ≤ c → c ≤ m + 1 → c ≤ cntFs l m c ∧ cntFs l m c ≤ m + 1 ∧ (cntFs l m c ≤ m → cntFs l m c = c + (nFs l : Int)) := by
  induction l with
  | nil => intro m c h1 h2 h3 h4; simp only [cntFs, nFs]; refine ⟨by omega, by omega, fun _ => by omega⟩
  | cons k r ih =>
    intro m c h1 h2 h3 h4
    simp only [cntFs, nFs]
    split
    · rename_i hc
      have hw : wr (m - c) = m - c := wr_fit _ ⟨by omega, by omega⟩
      rw [hw]
      have hk := h k (by simp) (m - c) (by omega) (by omega)
      have hw2 : wr (c + cntF k (m - c)) = c + cntF k (m - c) := wr_fit _ ⟨by omega, by omega⟩
      rw [hw2]
      obtain ⟨a1, a2, a3⟩ := ih (fun x hx => h x (by simp [hx])) m (c + cntF k (m - c)) h1 h2 (by omega) (by omega)
      refine ⟨by omega, a2, fun hr => ?_⟩
      rw [a3 hr, hk.2.2 (by omega)]
      omega
    · exact ⟨by omega, by omega, fun hr => absurd hr (by assumption)⟩
theorem cntF_ok : ∀ (f : Fm) (m : Int), 0 ≤ m → m ≤ 1000000 → 1 ≤ cntF f m ∧ cntF f m ≤ m + 1 ∧ (cntF f m ≤ m → cntF f m = (nF f : Int)) := by
  refine Fm.ind (fun f ih => ?_)
  intro m h1 h2
  rw [cntF_eq, nF_eq]
  obtain ⟨a, b, c⟩ := cntFs_ok ih m 1 h1 h2 (by omega) (by omega)
  exact ⟨a, b, fun h => by rw [c h]; omega⟩
theorem nF_le {f : Fm} {m : Int} (h : cntF f m ≤ m) (h1 : 0 ≤ m) (h2 : m ≤ 1000000) : nF f ≤ 1000000 ∧ (nF f : Int) ≤ m := by
  have := (cntF_ok f m h1 h2).2.2 h
  omega
end Go.Proofs.YtphmhelkojdlaaaDoor
namespace Go.Proofs.YtphmhelkojdlaaaDoor
open Go.RowKit
set_option maxRecDepth 10000
set_option linter.unusedSimpArgs false
set_option linter.unusedVariables false
def goodC (f : Fm) (d : Dm) (c : (List Int)) : Bool := bif (((!(decide (cntF f 300 ≤ 300))) || (!(validD d))) || (!(fitsD d c))) then (false) else ((((decide ((szF f).1 ≤ (60 : Int))) && (decide ((szF f).2 ≤ (16 : Int)))) && (decide ((checkR f d (namesF f [])) = (0 : Int)))))
noncomputable abbrev b28_1 (d : Dm) (f : Fm) : Hp := [([1], .row ((celD d).map .tv) false), ([0], .row ((celF f).map .tv) false)]
theorem c28 (f : Fm) (d : Dm) (c : (List Int))  : PureCall Tryd.prog 28 [agF f, agD d, .tv (.sli 1 (c.map encI))] (.tv (.bool (goodC f d c))) := by
  refine walk0 (fn := Tryd.f28) [.tmp 6] Tryd.func28 rfl (by kernel_rfl) rfl (by kernel_rfl) (by kernel_rfl) ?_
  change AT _ _ _ ⟨[(0, agF f), (1, agD d), (2, .tv (.sli 1 (c.map encI)))], [], [], 0⟩
  refine at_B [2, 3, 4] [] [] [(1000000, .any), (2, .tv (.sli 1 (c.map encI))), (3, .ptr [0] 0), (4, .ptr [1] 0)] (b28_1 d f) 3 (by kernel_rfl) ?_ ?_
  · exact trivial
  refine at_seq ?_
  refine at_B [3, 4, 22] [.std, .ret (.tv (.bool (decide (cntF f 300 ≤ 300)))), .std, .std, .std, .ret (.tv (.bool (validD d))), .std, .std, .std, .std, .std, .ret (.tv (.bool (fitsD d c)))] [PureCall Tryd.prog 12 [agF f, .tv (.int .i64 300)] (.tv (.bool (decide (cntF f 300 ≤ 300)))), ((!(decide (cntF f 300 ≤ 300))) = false) → PureCall Tryd.prog 25 [agD d] (.tv (.bool (validD d))), (((!(decide (cntF f 300 ≤ 300))) || (!(validD d))) = false) → PureCall Tryd.prog 30 [agD d, .tv (.sli 1 (c.map encI))] (.tv (.bool (fitsD d c)))] [(1000000, .any), (3, .ptr [0] 0), (4, .ptr [1] 0), (22, .tv (.bool (((!(decide (cntF f 300 ≤ 300))) || (!(validD d))) || (!(fitsD d c)))))] (b28_1 d f) 17 (by kernel_rfl) ?_ ?_
  · exact ⟨(c12 f 300), fun hg0 => (c25 d), fun hg0 => (c30 d c), trivial⟩
  refine at_cond (b := (((!(decide (cntF f 300 ≤ 300))) || (!(validD d))) || (!(fitsD d c)))) rfl rfl (fun hc22 => ?_) (fun hc22 => ?_)
  · have q22 := hc22
    (try simp only [brs] at q22)
    refine at_B [6] [] [] [(1000000, .any), (6, .tv (.bool false))] (b28_1 d f) 18 (by kernel_rfl) ?_ ?_
    · exact trivial
    refine at_ret ?_
    refine fin0 (.inr rfl) (.tv (.bool false)) (b28_1 d f) (.tv (.bool false)) (H2 := (b28_1 d f)) (by kernel_rfl) (by kernel_rfl) ?_
    refine Le.of_eq ?_
    first | rfl | (simp only [goodC, hc22, cond_true, cond_false]; done) | (simp only [goodC, hc22, cond_true, cond_false]; rfl)
  · have q22 := hc22
    (try simp only [brs] at q22)
    have hnf := (nF_le q22.1.1 (by decide) (by decide)).1
    refine at_skip ?_
    change AT _ _ _ _
    refine at_B [3, 4, 7, 8] [.std, .ret (.tup [.tv (.int .i64 ((szF f).1)), .tv (.int .i64 ((szF f).2))])] [PureCall Tryd.prog 14 [agF f] (.tup [.tv (.int .i64 ((szF f).1)), .tv (.int .i64 ((szF f).2))])] [(1000000, .any), (3, .ptr [0] 0), (4, .ptr [1] 0), (7, .tv (.int .i64 ((szF f).1))), (8, .tv (.int .i64 ((szF f).2)))] (b28_1 d f) 24 (by kernel_rfl) ?_ ?_
    · exact ⟨(c14 f), trivial⟩
    refine at_D [none, none, none, none, none, none, none, some [[0]], some [[1]], some [[0]]] [0, 1, 3, 7, 15, 31, 63, 127, 127, 127, 639, 2047, 4095, 8191, 16383] [6] [.std, .std, .std, .std, .std, .std, .std, .std, .std, .std, .ret (.tv (.sli 1 ((namesF f []).map encStr))), .ret (.tv (.int .i64 (checkR f d (namesF f []))))] [(((decide ((szF f).1 ≤ (60 : Int))) && (decide ((szF f).2 ≤ (16 : Int)))) = true) → PureCall Tryd.prog 19 [agF f] (.tv (.sli 1 ((namesF f []).map encStr))), (((decide ((szF f).1 ≤ (60 : Int))) && (decide ((szF f).2 ≤ (16 : Int)))) = true) → PureCall Tryd.prog 16 [agF f, agD d, .tv (.sli 1 ((namesF f []).map encStr))] (.tv (.int .i64 (checkR f d (namesF f []))))] [(1000000, .any), (6, .tv (.bool (((decide ((szF f).1 ≤ (60 : Int))) && (decide ((szF f).2 ≤ (16 : Int)))) && (decide ((checkR f d (namesF f [])) = (0 : Int))))))] (b28_1 d f) 39 (by kernel_rfl) ?_ ?_
    · exact ⟨fun hg0 => (c19 f (by (try simp only [brs, lns] at *); omega)), fun hg0 => (c16 f d (namesF f [])), trivial⟩
    refine at_ret ?_
    refine fin0 (.inr rfl) (.tv (.bool (((decide ((szF f).1 ≤ (60 : Int))) && (decide ((szF f).2 ≤ (16 : Int)))) && (decide ((checkR f d (namesF f [])) = (0 : Int)))))) (b28_1 d f) (.tv (.bool (((decide ((szF f).1 ≤ (60 : Int))) && (decide ((szF f).2 ≤ (16 : Int)))) && (decide ((checkR f d (namesF f [])) = (0 : Int)))))) (H2 := (b28_1 d f)) (by kernel_rfl) (by kernel_rfl) ?_
    refine Le.of_eq ?_
    first | rfl | (simp only [goodC, hc22, cond_true, cond_false]; done) | (simp only [goodC, hc22, cond_true, cond_false]; rfl)
abbrev b11_l1 : Dm := (Dm.mk [(Fc.mk ⟨#[97, 103, 101]⟩ 2 0 150), (Fc.mk ⟨#[109, 101, 109, 98, 101, 114]⟩ 1 0 1)])
abbrev b11_l2 : Fm := (Fm.mk 6 ⟨#[]⟩ 0 0 ([(Fm.mk 3 ⟨#[97, 103, 101]⟩ 6 18 []), (Fm.mk 5 ⟨#[]⟩ 0 0 ([(Fm.mk 3 ⟨#[109, 101, 109, 98, 101, 114]⟩ 1 1 [])]))]))
abbrev b11_l3 : Fm := (Fm.mk 5 ⟨#[]⟩ 0 0 ([(Fm.mk 3 ⟨#[109, 101, 109, 98, 101, 114]⟩ 1 1 [])]))
abbrev b11_l4 : Fm := (Fm.mk 3 ⟨#[109, 101, 109, 98, 101, 114]⟩ 1 1 [])
abbrev b11_l5 : Fm := (Fm.mk 4 ⟨#[97, 100, 117, 108, 116]⟩ 0 0 [])
abbrev b11_l8 : Fm := (Fm.mk 3 ⟨#[97, 103, 101]⟩ 1 1000001 [])
def headV  : Bool := (((((((((((holdP b11_l2 b11_l1 ([20, 0]) ([])) && (decide ((szF b11_l2).1 = (4 : Int)))) && (decide ((szF b11_l2).2 = (3 : Int)))) && (holdP b11_l5 b11_l1 ([20, 0]) ([⟨#[97, 100, 117, 108, 116]⟩]))) && (!(holdP b11_l5 b11_l1 ([20, 0]) ([])))) && (!(holdP (expF ⟨#[97, 100, 117, 108, 116]⟩ (Fm.mk 3 ⟨#[97, 103, 101]⟩ 3 18 []) b11_l5) b11_l1 ([20, 0]) ([])))) && ((((decide ((checkR b11_l8 b11_l1 ([])) = (10 : Int))) && (decide ((checkR b11_l5 b11_l1 ([])) = (7 : Int)))) && (decide ((checkR b11_l2 b11_l1 ([])) = (0 : Int)))) && (decide ((checkR (Fm.mk 6 ⟨#[]⟩ 0 0 ([b11_l2])) b11_l1 ([])) = (1 : Int))))) && (fitsD b11_l1 ([20, 0]))) && (sameL (namesF (Fm.mk 7 ⟨#[]⟩ 0 0 ([b11_l5, b11_l2, b11_l5])) []) ([⟨#[97, 100, 117, 108, 116]⟩]))) && (sameF b11_l2 b11_l2)) && (!(sameF b11_l2 b11_l5)))
noncomputable abbrev b11_1 : Id × AO := ([5], .row [.tv (.sli 4 (([(Fc.mk ⟨#[97, 103, 101]⟩ 2 0 150), (Fc.mk ⟨#[109, 101, 109, 98, 101, 114]⟩ 1 0 1)] : List _).map celC))] false)
noncomputable abbrev b11_2 : Id × AO := ([15], .row [.tv (.int .i64 6), .tv (.str ⟨#[]⟩), .tv (.int .i64 0), .tv (.int .i64 0), .tv (.sli 5 (([(Fm.mk 3 ⟨#[97, 103, 101]⟩ 6 18 []), b11_l3]).map encF))] false)
noncomputable abbrev b11_3 : Id × AO := ([18], .row [.tv (.int .i64 4), .tv (.str ⟨#[97, 100, 117, 108, 116]⟩), .tv (.int .i64 0), .tv (.int .i64 0), .tv .nils] false)
noncomputable abbrev b11_4 : Id × AO := ([23], .row ((celF (expF ⟨#[97, 100, 117, 108, 116]⟩ (Fm.mk 3 ⟨#[97, 103, 101]⟩ 3 18 []) b11_l5)).map .tv) false)
theorem c11a   : PureCall Tryd.prog 11 [] (.tv (.bool headV)) := by
  refine walk0 (fn := Tryd.f11) [.tmp 0] Tryd.func11 rfl (by kernel_rfl) rfl (by kernel_rfl) (by kernel_rfl) ?_
  change AT _ _ _ ⟨[], [], [], 0⟩
  refine at_B [] [] [] [(1000000, .any)] [] 1 (by kernel_rfl) ?_ ?_
  · exact trivial
  refine at_B [1] [.std, .std, .eq (.tv (.sli 4 (([(Fc.mk ⟨#[97, 103, 101]⟩ 2 0 150), (Fc.mk ⟨#[109, 101, 109, 98, 101, 114]⟩ 1 0 1)] : List _).map celC)))] [(.tv (.sli 4 [[.str ⟨#[97, 103, 101]⟩, .int .i64 2, .int .i64 0, .int .i64 150], [.str ⟨#[109, 101, 109, 98, 101, 114]⟩, .int .i64 1, .int .i64 0, .int .i64 1]]) : AV) = .tv (.sli 4 (([(Fc.mk ⟨#[97, 103, 101]⟩ 2 0 150), (Fc.mk ⟨#[109, 101, 109, 98, 101, 114]⟩ 1 0 1)] : List _).map celC))] [(1000000, .any), (1, .ptr [5] 0)] [b11_1] 7 (by kernel_rfl) ?_ ?_
  · exact ⟨rfl, trivial⟩
  refine at_B [1, 2] [.eq (.tv (.sli 1 (([20, 0] : List _).map encI)))] [(.tv (.sli 1 [[.int .i64 20], [.int .i64 0]]) : AV) = .tv (.sli 1 (([20, 0] : List _).map encI))] [(1000000, .any), (1, .ptr [5] 0), (2, .tv (.sli 1 (([20, 0] : List _).map encI)))] [b11_1] 9 (by kernel_rfl) ?_ ?_
  · exact ⟨rfl, trivial⟩
  refine at_B [1, 2, 3] [.ret (.agg [.tv (.int .i64 3), .tv (.str ⟨#[97, 103, 101]⟩), .tv (.int .i64 6), .tv (.int .i64 18), .tv (.sli 5 (([] : List _).map encF))]), .ret (.agg [.tv (.int .i64 3), .tv (.str ⟨#[109, 101, 109, 98, 101, 114]⟩), .tv (.int .i64 1), .tv (.int .i64 1), .tv (.sli 5 (([] : List _).map encF))]), .eq (.tv (.sli 5 (([b11_l4] : List _).map encF))), .ret (.agg [.tv (.int .i64 5), .tv (.str ⟨#[]⟩), .tv (.int .i64 0), .tv (.int .i64 0), .tv (.sli 5 (([b11_l4]).map encF))]), .eq (.tv (.sli 5 (([(Fm.mk 3 ⟨#[97, 103, 101]⟩ 6 18 []), b11_l3] : List _).map encF))), .ret (.agg [.tv (.int .i64 6), .tv (.str ⟨#[]⟩), .tv (.int .i64 0), .tv (.int .i64 0), .tv (.sli 5 (([(Fm.mk 3 ⟨#[97, 103, 101]⟩ 6 18 []), b11_l3]).map encF))])] [PureCall Tryd.prog 31 [.tv (.str ⟨#[97, 103, 101]⟩), .tv (.int .i64 6), .tv (.int .i64 18)] (.agg [.tv (.int .i64 3), .tv (.str ⟨#[97, 103, 101]⟩), .tv (.int .i64 6), .tv (.int .i64 18), .tv (.sli 5 (([] : List _).map encF))]), PureCall Tryd.prog 31 [.tv (.str ⟨#[109, 101, 109, 98, 101, 114]⟩), .tv (.int .i64 1), .tv (.int .i64 1)] (.agg [.tv (.int .i64 3), .tv (.str ⟨#[109, 101, 109, 98, 101, 114]⟩), .tv (.int .i64 1), .tv (.int .i64 1), .tv (.sli 5 (([] : List _).map encF))]), (.tv (.sli 5 [[.int .i64 3, .str ⟨#[109, 101, 109, 98, 101, 114]⟩, .int .i64 1, .int .i64 1, .sli 5 (([] : List _).map encF)]]) : AV) = .tv (.sli 5 (([b11_l4] : List _).map encF)), PureCall Tryd.prog 29 [.tv (.int .i64 5), .tv (.sli 5 (([b11_l4] : List _).map encF))] (.agg [.tv (.int .i64 5), .tv (.str ⟨#[]⟩), .tv (.int .i64 0), .tv (.int .i64 0), .tv (.sli 5 (([b11_l4]).map encF))]), (.tv (.sli 5 [[.int .i64 3, .str ⟨#[97, 103, 101]⟩, .int .i64 6, .int .i64 18, .sli 5 (([] : List _).map encF)], [.int .i64 5, .str ⟨#[]⟩, .int .i64 0, .int .i64 0, .sli 5 (([b11_l4]).map encF)]]) : AV) = .tv (.sli 5 (([(Fm.mk 3 ⟨#[97, 103, 101]⟩ 6 18 []), b11_l3] : List _).map encF)), PureCall Tryd.prog 29 [.tv (.int .i64 6), .tv (.sli 5 (([(Fm.mk 3 ⟨#[97, 103, 101]⟩ 6 18 []), b11_l3] : List _).map encF))] (.agg [.tv (.int .i64 6), .tv (.str ⟨#[]⟩), .tv (.int .i64 0), .tv (.int .i64 0), .tv (.sli 5 (([(Fm.mk 3 ⟨#[97, 103, 101]⟩ 6 18 []), b11_l3]).map encF))])] [(1000000, .any), (1, .ptr [5] 0), (2, .tv (.sli 1 (([20, 0] : List _).map encI))), (3, .ptr [15] 0)] [b11_2, b11_1] 17 (by kernel_rfl) ?_ ?_
  · exact ⟨(c31 ⟨#[97, 103, 101]⟩ 6 18), (c31 ⟨#[109, 101, 109, 98, 101, 114]⟩ 1 1), by (simp only [List.map, encF_eq]) <;> rfl, (c29 5 [b11_l4]), by (simp only [List.map, encF_eq]) <;> rfl, (c29 6 [(Fm.mk 3 ⟨#[97, 103, 101]⟩ 6 18 []), b11_l3]), trivial⟩
  refine at_B [1, 2, 3, 4] [] [] [(1000000, .any), (1, .ptr [5] 0), (2, .tv (.sli 1 (([20, 0] : List _).map encI))), (3, .ptr [15] 0), (4, .ptr [18] 0)] [b11_3, b11_2, b11_1] 20 (by kernel_rfl) ?_ ?_
  · exact trivial
  refine at_D [some [[18]], none, none, none, some [[23]]] [0, 0, 3, 0, 15] [1, 2, 3, 4, 5] [.std, .ret (.agg [.tv (.int .i64 3), .tv (.str ⟨#[97, 103, 101]⟩), .tv (.int .i64 3), .tv (.int .i64 18), .tv (.sli 5 (([] : List _).map encF))]), .ret (agF (expF ⟨#[97, 100, 117, 108, 116]⟩ (Fm.mk 3 ⟨#[97, 103, 101]⟩ 3 18 []) b11_l5))] [PureCall Tryd.prog 31 [.tv (.str ⟨#[97, 103, 101]⟩), .tv (.int .i64 3), .tv (.int .i64 18)] (.agg [.tv (.int .i64 3), .tv (.str ⟨#[97, 103, 101]⟩), .tv (.int .i64 3), .tv (.int .i64 18), .tv (.sli 5 (([] : List _).map encF))]), PureCall Tryd.prog 23 [.agg [.tv (.int .i64 4), .tv (.str ⟨#[97, 100, 117, 108, 116]⟩), .tv (.int .i64 0), .tv (.int .i64 0), .tv .nils], .tv (.str ⟨#[97, 100, 117, 108, 116]⟩), .agg [.tv (.int .i64 3), .tv (.str ⟨#[97, 103, 101]⟩), .tv (.int .i64 3), .tv (.int .i64 18), .tv (.sli 5 (([] : List _).map encF))]] (agF (expF ⟨#[97, 100, 117, 108, 116]⟩ (Fm.mk 3 ⟨#[97, 103, 101]⟩ 3 18 []) b11_l5))] [(1000000, .any), (1, .ptr [5] 0), (2, .tv (.sli 1 (([20, 0] : List _).map encI))), (3, .ptr [15] 0), (4, .ptr [18] 0), (5, .ptr [23] 0)] [b11_4, b11_3, b11_2, b11_1] 25 (by kernel_rfl) ?_ ?_
  · exact ⟨(c31 ⟨#[97, 103, 101]⟩ 3 18), ((c23 b11_l5 ⟨#[97, 100, 117, 108, 116]⟩ (Fm.mk 3 ⟨#[97, 103, 101]⟩ 3 18 []) (by first | omega | decide | decide +kernel))).arg (.cons (Le.agg (.cons (Le.refl _) (.cons (Le.refl _) (.cons (Le.refl _) (.cons (Le.refl _) (.cons (Le.nils 5) .nil)))))) (.cons (Le.refl _) (.cons (Le.refl _) .nil))), trivial⟩
  refine at_B [1, 2, 3, 4, 5, 6, 7] [.std, .ret (.tup [.tv (.int .i64 ((szF b11_l2).1)), .tv (.int .i64 ((szF b11_l2).2))])] [PureCall Tryd.prog 14 [.agg [.tv (.int .i64 6), .tv (.str ⟨#[]⟩), .tv (.int .i64 0), .tv (.int .i64 0), .tv (.sli 5 (([(Fm.mk 3 ⟨#[97, 103, 101]⟩ 6 18 []), b11_l3]).map encF))]] (.tup [.tv (.int .i64 ((szF b11_l2).1)), .tv (.int .i64 ((szF b11_l2).2))])] [(1000000, .any), (1, .ptr [5] 0), (2, .tv (.sli 1 (([20, 0] : List _).map encI))), (3, .ptr [15] 0), (4, .ptr [18] 0), (5, .ptr [23] 0), (6, .tv (.int .i64 ((szF b11_l2).1))), (7, .tv (.int .i64 ((szF b11_l2).2)))] [b11_4, b11_3, b11_2, b11_1] 32 (by kernel_rfl) ?_ ?_
  · exact ⟨(c14 b11_l2), trivial⟩
  refine at_B [1, 2, 3, 4, 8] [.std, .std, .std, .ret (.tv (.bool (holdP b11_l2 b11_l1 ([20, 0]) ([])))), .std, .std, .std, .std, .std, .std, .std, .std, .std, .std, .std, .std, .eq (.tv (.sli 1 (([⟨#[97, 100, 117, 108, 116]⟩] : List _).map encStr))), .ret (.tv (.bool (holdP b11_l5 b11_l1 ([20, 0]) ([⟨#[97, 100, 117, 108, 116]⟩])))), .std, .std, .std, .std, .std, .ret (.tv (.bool (holdP b11_l5 b11_l1 ([20, 0]) ([])))), .std, .std, .std, .std, .std, .std, .ret (.tv (.bool (holdP (expF ⟨#[97, 100, 117, 108, 116]⟩ (Fm.mk 3 ⟨#[97, 103, 101]⟩ 3 18 []) b11_l5) b11_l1 ([20, 0]) ([]))))] [PureCall Tryd.prog 26 [.agg [.tv (.int .i64 6), .tv (.str ⟨#[]⟩), .tv (.int .i64 0), .tv (.int .i64 0), .tv (.sli 5 (([(Fm.mk 3 ⟨#[97, 103, 101]⟩ 6 18 []), b11_l3]).map encF))], .agg [.tv (.sli 4 (([(Fc.mk ⟨#[97, 103, 101]⟩ 2 0 150), (Fc.mk ⟨#[109, 101, 109, 98, 101, 114]⟩ 1 0 1)] : List _).map celC))], .tv (.sli 1 (([20, 0] : List _).map encI)), .tv .nils] (.tv (.bool (holdP b11_l2 b11_l1 ([20, 0]) ([])))), ((((holdP b11_l2 b11_l1 ([20, 0]) ([])) && (decide ((szF b11_l2).1 = (4 : Int)))) && (decide ((szF b11_l2).2 = (3 : Int)))) = true) → (.tv (.sli 1 [[.str ⟨#[97, 100, 117, 108, 116]⟩]]) : AV) = .tv (.sli 1 (([⟨#[97, 100, 117, 108, 116]⟩] : List _).map encStr)), ((((holdP b11_l2 b11_l1 ([20, 0]) ([])) && (decide ((szF b11_l2).1 = (4 : Int)))) && (decide ((szF b11_l2).2 = (3 : Int)))) = true) → PureCall Tryd.prog 26 [.agg [.tv (.int .i64 4), .tv (.str ⟨#[97, 100, 117, 108, 116]⟩), .tv (.int .i64 0), .tv (.int .i64 0), .tv .nils], .agg [.tv (.sli 4 (([(Fc.mk ⟨#[97, 103, 101]⟩ 2 0 150), (Fc.mk ⟨#[109, 101, 109, 98, 101, 114]⟩ 1 0 1)] : List _).map celC))], .tv (.sli 1 (([20, 0] : List _).map encI)), .tv (.sli 1 (([⟨#[97, 100, 117, 108, 116]⟩] : List _).map encStr))] (.tv (.bool (holdP b11_l5 b11_l1 ([20, 0]) ([⟨#[97, 100, 117, 108, 116]⟩])))), (((((holdP b11_l2 b11_l1 ([20, 0]) ([])) && (decide ((szF b11_l2).1 = (4 : Int)))) && (decide ((szF b11_l2).2 = (3 : Int)))) && (holdP b11_l5 b11_l1 ([20, 0]) ([⟨#[97, 100, 117, 108, 116]⟩]))) = true) → PureCall Tryd.prog 26 [.agg [.tv (.int .i64 4), .tv (.str ⟨#[97, 100, 117, 108, 116]⟩), .tv (.int .i64 0), .tv (.int .i64 0), .tv .nils], .agg [.tv (.sli 4 (([(Fc.mk ⟨#[97, 103, 101]⟩ 2 0 150), (Fc.mk ⟨#[109, 101, 109, 98, 101, 114]⟩ 1 0 1)] : List _).map celC))], .tv (.sli 1 (([20, 0] : List _).map encI)), .tv .nils] (.tv (.bool (holdP b11_l5 b11_l1 ([20, 0]) ([])))), ((((((holdP b11_l2 b11_l1 ([20, 0]) ([])) && (decide ((szF b11_l2).1 = (4 : Int)))) && (decide ((szF b11_l2).2 = (3 : Int)))) && (holdP b11_l5 b11_l1 ([20, 0]) ([⟨#[97, 100, 117, 108, 116]⟩]))) && (!(holdP b11_l5 b11_l1 ([20, 0]) ([])))) = true) → PureCall Tryd.prog 26 [agF (expF ⟨#[97, 100, 117, 108, 116]⟩ (Fm.mk 3 ⟨#[97, 103, 101]⟩ 3 18 []) b11_l5), .agg [.tv (.sli 4 (([(Fc.mk ⟨#[97, 103, 101]⟩ 2 0 150), (Fc.mk ⟨#[109, 101, 109, 98, 101, 114]⟩ 1 0 1)] : List _).map celC))], .tv (.sli 1 (([20, 0] : List _).map encI)), .tv .nils] (.tv (.bool (holdP (expF ⟨#[97, 100, 117, 108, 116]⟩ (Fm.mk 3 ⟨#[97, 103, 101]⟩ 3 18 []) b11_l5) b11_l1 ([20, 0]) ([]))))] [(1000000, .any), (1, .ptr [5] 0), (2, .tv (.sli 1 (([20, 0] : List _).map encI))), (3, .ptr [15] 0), (4, .ptr [18] 0), (8, .tv (.bool ((((((holdP b11_l2 b11_l1 ([20, 0]) ([])) && (decide ((szF b11_l2).1 = (4 : Int)))) && (decide ((szF b11_l2).2 = (3 : Int)))) && (holdP b11_l5 b11_l1 ([20, 0]) ([⟨#[97, 100, 117, 108, 116]⟩]))) && (!(holdP b11_l5 b11_l1 ([20, 0]) ([])))) && (!(holdP (expF ⟨#[97, 100, 117, 108, 116]⟩ (Fm.mk 3 ⟨#[97, 103, 101]⟩ 3 18 []) b11_l5) b11_l1 ([20, 0]) ([]))))))] [b11_4, b11_3, b11_2, b11_1] 66 (by kernel_rfl) ?_ ?_
  · exact ⟨((c26 b11_l2 b11_l1 [20, 0] [])).arg (.cons (Le.refl _) (.cons (Le.refl _) (.cons (Le.refl _) (.cons (Le.nils 1) .nil)))), fun hg0 => rfl, fun hg0 => ((c26 b11_l5 b11_l1 [20, 0] [⟨#[97, 100, 117, 108, 116]⟩])).arg (.cons (Le.agg (.cons (Le.refl _) (.cons (Le.refl _) (.cons (Le.refl _) (.cons (Le.refl _) (.cons (Le.nils 5) .nil)))))) (.cons (Le.refl _) (.cons (Le.refl _) (.cons (Le.refl _) .nil)))), fun hg0 => ((c26 b11_l5 b11_l1 [20, 0] [])).arg (.cons (Le.agg (.cons (Le.refl _) (.cons (Le.refl _) (.cons (Le.refl _) (.cons (Le.refl _) (.cons (Le.nils 5) .nil)))))) (.cons (Le.refl _) (.cons (Le.refl _) (.cons (Le.nils 1) .nil)))), fun hg0 => ((c26 (expF ⟨#[97, 100, 117, 108, 116]⟩ (Fm.mk 3 ⟨#[97, 103, 101]⟩ 3 18 []) b11_l5) b11_l1 [20, 0] [])).arg (.cons (Le.refl _) (.cons (Le.refl _) (.cons (Le.refl _) (.cons (Le.nils 1) .nil)))), trivial⟩
  refine at_D [none, some [[5]], none, none, none, some [[18]], some [[5]], none, none, none, none, some [[15]], some [[5]], none, none, none, none, some [[15]], none, none, some [[5]]] [0, 0, 3, 7, 15, 31, 31, 127, 255, 511, 1023, 2047, 2047, 8191, 16383, 32767, 65535, 131071, 262143, 524287, 131071, 2097151, 4194303, 8388607, 16777215] [1, 2, 3, 4, 8, 9] [.ret (.agg [.tv (.int .i64 3), .tv (.str ⟨#[97, 103, 101]⟩), .tv (.int .i64 1), .tv (.int .i64 1000001), .tv (.sli 5 (([] : List _).map encF))]), .std, .ret (.tv (.int .i64 (checkR b11_l8 b11_l1 ([])))), .std, .std, .std, .std, .ret (.tv (.int .i64 (checkR b11_l5 b11_l1 ([])))), .std, .std, .std, .std, .std, .ret (.tv (.int .i64 (checkR b11_l2 b11_l1 ([])))), .std, .std, .std, .std, .eq (.tv (.sli 5 (([b11_l2] : List _).map encF))), .ret (.agg [.tv (.int .i64 6), .tv (.str ⟨#[]⟩), .tv (.int .i64 0), .tv (.int .i64 0), .tv (.sli 5 (([b11_l2]).map encF))]), .std, .ret (.tv (.int .i64 (checkR (Fm.mk 6 ⟨#[]⟩ 0 0 ([b11_l2])) b11_l1 ([]))))] [PureCall Tryd.prog 31 [.tv (.str ⟨#[97, 103, 101]⟩), .tv (.int .i64 1), .tv (.int .i64 1000001)] (.agg [.tv (.int .i64 3), .tv (.str ⟨#[97, 103, 101]⟩), .tv (.int .i64 1), .tv (.int .i64 1000001), .tv (.sli 5 (([] : List _).map encF))]), PureCall Tryd.prog 16 [.agg [.tv (.int .i64 3), .tv (.str ⟨#[97, 103, 101]⟩), .tv (.int .i64 1), .tv (.int .i64 1000001), .tv (.sli 5 (([] : List _).map encF))], .agg [.tv (.sli 4 (([(Fc.mk ⟨#[97, 103, 101]⟩ 2 0 150), (Fc.mk ⟨#[109, 101, 109, 98, 101, 114]⟩ 1 0 1)] : List _).map celC))], .tv .nils] (.tv (.int .i64 (checkR b11_l8 b11_l1 ([])))), ((decide ((checkR b11_l8 b11_l1 ([])) = (10 : Int))) = true) → PureCall Tryd.prog 16 [.agg [.tv (.int .i64 4), .tv (.str ⟨#[97, 100, 117, 108, 116]⟩), .tv (.int .i64 0), .tv (.int .i64 0), .tv .nils], .agg [.tv (.sli 4 (([(Fc.mk ⟨#[97, 103, 101]⟩ 2 0 150), (Fc.mk ⟨#[109, 101, 109, 98, 101, 114]⟩ 1 0 1)] : List _).map celC))], .tv .nils] (.tv (.int .i64 (checkR b11_l5 b11_l1 ([])))), (((decide ((checkR b11_l8 b11_l1 ([])) = (10 : Int))) && (decide ((checkR b11_l5 b11_l1 ([])) = (7 : Int)))) = true) → PureCall Tryd.prog 16 [.agg [.tv (.int .i64 6), .tv (.str ⟨#[]⟩), .tv (.int .i64 0), .tv (.int .i64 0), .tv (.sli 5 (([(Fm.mk 3 ⟨#[97, 103, 101]⟩ 6 18 []), b11_l3]).map encF))], .agg [.tv (.sli 4 (([(Fc.mk ⟨#[97, 103, 101]⟩ 2 0 150), (Fc.mk ⟨#[109, 101, 109, 98, 101, 114]⟩ 1 0 1)] : List _).map celC))], .tv .nils] (.tv (.int .i64 (checkR b11_l2 b11_l1 ([])))), ((((decide ((checkR b11_l8 b11_l1 ([])) = (10 : Int))) && (decide ((checkR b11_l5 b11_l1 ([])) = (7 : Int)))) && (decide ((checkR b11_l2 b11_l1 ([])) = (0 : Int)))) = true) → (.tv (.sli 5 [[.int .i64 6, .str ⟨#[]⟩, .int .i64 0, .int .i64 0, .sli 5 (([(Fm.mk 3 ⟨#[97, 103, 101]⟩ 6 18 []), b11_l3]).map encF)]]) : AV) = .tv (.sli 5 (([b11_l2] : List _).map encF)), ((((decide ((checkR b11_l8 b11_l1 ([])) = (10 : Int))) && (decide ((checkR b11_l5 b11_l1 ([])) = (7 : Int)))) && (decide ((checkR b11_l2 b11_l1 ([])) = (0 : Int)))) = true) → PureCall Tryd.prog 29 [.tv (.int .i64 6), .tv (.sli 5 (([b11_l2] : List _).map encF))] (.agg [.tv (.int .i64 6), .tv (.str ⟨#[]⟩), .tv (.int .i64 0), .tv (.int .i64 0), .tv (.sli 5 (([b11_l2]).map encF))]), ((((decide ((checkR b11_l8 b11_l1 ([])) = (10 : Int))) && (decide ((checkR b11_l5 b11_l1 ([])) = (7 : Int)))) && (decide ((checkR b11_l2 b11_l1 ([])) = (0 : Int)))) = true) → PureCall Tryd.prog 16 [.agg [.tv (.int .i64 6), .tv (.str ⟨#[]⟩), .tv (.int .i64 0), .tv (.int .i64 0), .tv (.sli 5 (([b11_l2]).map encF))], .agg [.tv (.sli 4 (([(Fc.mk ⟨#[97, 103, 101]⟩ 2 0 150), (Fc.mk ⟨#[109, 101, 109, 98, 101, 114]⟩ 1 0 1)] : List _).map celC))], .tv .nils] (.tv (.int .i64 (checkR (Fm.mk 6 ⟨#[]⟩ 0 0 ([b11_l2])) b11_l1 ([]))))] [(1000000, .any), (1, .ptr [5] 0), (2, .tv (.sli 1 (([20, 0] : List _).map encI))), (3, .ptr [15] 0), (4, .ptr [18] 0), (8, .tv (.bool ((((((holdP b11_l2 b11_l1 ([20, 0]) ([])) && (decide ((szF b11_l2).1 = (4 : Int)))) && (decide ((szF b11_l2).2 = (3 : Int)))) && (holdP b11_l5 b11_l1 ([20, 0]) ([⟨#[97, 100, 117, 108, 116]⟩]))) && (!(holdP b11_l5 b11_l1 ([20, 0]) ([])))) && (!(holdP (expF ⟨#[97, 100, 117, 108, 116]⟩ (Fm.mk 3 ⟨#[97, 103, 101]⟩ 3 18 []) b11_l5) b11_l1 ([20, 0]) ([])))))), (9, .tv (.bool ((((decide ((checkR b11_l8 b11_l1 ([])) = (10 : Int))) && (decide ((checkR b11_l5 b11_l1 ([])) = (7 : Int)))) && (decide ((checkR b11_l2 b11_l1 ([])) = (0 : Int)))) && (decide ((checkR (Fm.mk 6 ⟨#[]⟩ 0 0 ([b11_l2])) b11_l1 ([])) = (1 : Int))))))] [b11_4, b11_3, b11_2, b11_1] 91 (by kernel_rfl) ?_ ?_
  · exact ⟨(c31 ⟨#[97, 103, 101]⟩ 1 1000001), ((c16 b11_l8 b11_l1 [])).arg (.cons (Le.refl _) (.cons (Le.refl _) (.cons (Le.nils 1) .nil))), fun hg0 => ((c16 b11_l5 b11_l1 [])).arg (.cons (Le.agg (.cons (Le.refl _) (.cons (Le.refl _) (.cons (Le.refl _) (.cons (Le.refl _) (.cons (Le.nils 5) .nil)))))) (.cons (Le.refl _) (.cons (Le.nils 1) .nil))), fun hg0 => ((c16 b11_l2 b11_l1 [])).arg (.cons (Le.refl _) (.cons (Le.refl _) (.cons (Le.nils 1) .nil))), fun hg0 => by (simp only [List.map, encF_eq]) <;> rfl, fun hg0 => (c29 6 [b11_l2]), fun hg0 => ((c16 (Fm.mk 6 ⟨#[]⟩ 0 0 ([b11_l2])) b11_l1 [])).arg (.cons (Le.refl _) (.cons (Le.refl _) (.cons (Le.nils 1) .nil))), trivial⟩
  refine at_B [0] [.std, .std, .std, .std, .std, .std, .std, .ret (.tv (.bool (fitsD b11_l1 ([20, 0])))), .std, .std, .std, .std, .std, .std, .ret (.agg [.tv (.int .i64 7), .tv (.str ⟨#[]⟩), .tv (.int .i64 0), .tv (.int .i64 0), .tv (.sli 5 (([b11_l5, b11_l2, b11_l5]).map encF))]), .ret (.tv (.sli 1 ((namesF (Fm.mk 7 ⟨#[]⟩ 0 0 ([b11_l5, b11_l2, b11_l5])) []).map encStr))), .eq (.tv (.sli 1 (([⟨#[97, 100, 117, 108, 116]⟩] : List _).map encStr))), .ret (.tv (.bool (sameL (namesF (Fm.mk 7 ⟨#[]⟩ 0 0 ([b11_l5, b11_l2, b11_l5])) []) ([⟨#[97, 100, 117, 108, 116]⟩])))), .std, .std, .std, .std, .ret (.tv (.bool (sameF b11_l2 b11_l2))), .std, .std, .std, .std, .ret (.tv (.bool (sameF b11_l2 b11_l5)))] [((((((((holdP b11_l2 b11_l1 ([20, 0]) ([])) && (decide ((szF b11_l2).1 = (4 : Int)))) && (decide ((szF b11_l2).2 = (3 : Int)))) && (holdP b11_l5 b11_l1 ([20, 0]) ([⟨#[97, 100, 117, 108, 116]⟩]))) && (!(holdP b11_l5 b11_l1 ([20, 0]) ([])))) && (!(holdP (expF ⟨#[97, 100, 117, 108, 116]⟩ (Fm.mk 3 ⟨#[97, 103, 101]⟩ 3 18 []) b11_l5) b11_l1 ([20, 0]) ([])))) && ((((decide ((checkR b11_l8 b11_l1 ([])) = (10 : Int))) && (decide ((checkR b11_l5 b11_l1 ([])) = (7 : Int)))) && (decide ((checkR b11_l2 b11_l1 ([])) = (0 : Int)))) && (decide ((checkR (Fm.mk 6 ⟨#[]⟩ 0 0 ([b11_l2])) b11_l1 ([])) = (1 : Int))))) = true) → PureCall Tryd.prog 30 [.agg [.tv (.sli 4 (([(Fc.mk ⟨#[97, 103, 101]⟩ 2 0 150), (Fc.mk ⟨#[109, 101, 109, 98, 101, 114]⟩ 1 0 1)] : List _).map celC))], .tv (.sli 1 (([20, 0] : List _).map encI))] (.tv (.bool (fitsD b11_l1 ([20, 0])))), (((((((((holdP b11_l2 b11_l1 ([20, 0]) ([])) && (decide ((szF b11_l2).1 = (4 : Int)))) && (decide ((szF b11_l2).2 = (3 : Int)))) && (holdP b11_l5 b11_l1 ([20, 0]) ([⟨#[97, 100, 117, 108, 116]⟩]))) && (!(holdP b11_l5 b11_l1 ([20, 0]) ([])))) && (!(holdP (expF ⟨#[97, 100, 117, 108, 116]⟩ (Fm.mk 3 ⟨#[97, 103, 101]⟩ 3 18 []) b11_l5) b11_l1 ([20, 0]) ([])))) && ((((decide ((checkR b11_l8 b11_l1 ([])) = (10 : Int))) && (decide ((checkR b11_l5 b11_l1 ([])) = (7 : Int)))) && (decide ((checkR b11_l2 b11_l1 ([])) = (0 : Int)))) && (decide ((checkR (Fm.mk 6 ⟨#[]⟩ 0 0 ([b11_l2])) b11_l1 ([])) = (1 : Int))))) && (fitsD b11_l1 ([20, 0]))) = true) → PureCall Tryd.prog 29 [.tv (.int .i64 7), .tv (.sli 5 [[.int .i64 4, .str ⟨#[97, 100, 117, 108, 116]⟩, .int .i64 0, .int .i64 0, .nils], [.int .i64 6, .str ⟨#[]⟩, .int .i64 0, .int .i64 0, .sli 5 (([(Fm.mk 3 ⟨#[97, 103, 101]⟩ 6 18 []), b11_l3]).map encF)], [.int .i64 4, .str ⟨#[97, 100, 117, 108, 116]⟩, .int .i64 0, .int .i64 0, .nils]])] (.agg [.tv (.int .i64 7), .tv (.str ⟨#[]⟩), .tv (.int .i64 0), .tv (.int .i64 0), .tv (.sli 5 (([b11_l5, b11_l2, b11_l5]).map encF))]), (((((((((holdP b11_l2 b11_l1 ([20, 0]) ([])) && (decide ((szF b11_l2).1 = (4 : Int)))) && (decide ((szF b11_l2).2 = (3 : Int)))) && (holdP b11_l5 b11_l1 ([20, 0]) ([⟨#[97, 100, 117, 108, 116]⟩]))) && (!(holdP b11_l5 b11_l1 ([20, 0]) ([])))) && (!(holdP (expF ⟨#[97, 100, 117, 108, 116]⟩ (Fm.mk 3 ⟨#[97, 103, 101]⟩ 3 18 []) b11_l5) b11_l1 ([20, 0]) ([])))) && ((((decide ((checkR b11_l8 b11_l1 ([])) = (10 : Int))) && (decide ((checkR b11_l5 b11_l1 ([])) = (7 : Int)))) && (decide ((checkR b11_l2 b11_l1 ([])) = (0 : Int)))) && (decide ((checkR (Fm.mk 6 ⟨#[]⟩ 0 0 ([b11_l2])) b11_l1 ([])) = (1 : Int))))) && (fitsD b11_l1 ([20, 0]))) = true) → PureCall Tryd.prog 19 [.agg [.tv (.int .i64 7), .tv (.str ⟨#[]⟩), .tv (.int .i64 0), .tv (.int .i64 0), .tv (.sli 5 (([b11_l5, b11_l2, b11_l5]).map encF))]] (.tv (.sli 1 ((namesF (Fm.mk 7 ⟨#[]⟩ 0 0 ([b11_l5, b11_l2, b11_l5])) []).map encStr))), (((((((((holdP b11_l2 b11_l1 ([20, 0]) ([])) && (decide ((szF b11_l2).1 = (4 : Int)))) && (decide ((szF b11_l2).2 = (3 : Int)))) && (holdP b11_l5 b11_l1 ([20, 0]) ([⟨#[97, 100, 117, 108, 116]⟩]))) && (!(holdP b11_l5 b11_l1 ([20, 0]) ([])))) && (!(holdP (expF ⟨#[97, 100, 117, 108, 116]⟩ (Fm.mk 3 ⟨#[97, 103, 101]⟩ 3 18 []) b11_l5) b11_l1 ([20, 0]) ([])))) && ((((decide ((checkR b11_l8 b11_l1 ([])) = (10 : Int))) && (decide ((checkR b11_l5 b11_l1 ([])) = (7 : Int)))) && (decide ((checkR b11_l2 b11_l1 ([])) = (0 : Int)))) && (decide ((checkR (Fm.mk 6 ⟨#[]⟩ 0 0 ([b11_l2])) b11_l1 ([])) = (1 : Int))))) && (fitsD b11_l1 ([20, 0]))) = true) → (.tv (.sli 1 [[.str ⟨#[97, 100, 117, 108, 116]⟩]]) : AV) = .tv (.sli 1 (([⟨#[97, 100, 117, 108, 116]⟩] : List _).map encStr)), (((((((((holdP b11_l2 b11_l1 ([20, 0]) ([])) && (decide ((szF b11_l2).1 = (4 : Int)))) && (decide ((szF b11_l2).2 = (3 : Int)))) && (holdP b11_l5 b11_l1 ([20, 0]) ([⟨#[97, 100, 117, 108, 116]⟩]))) && (!(holdP b11_l5 b11_l1 ([20, 0]) ([])))) && (!(holdP (expF ⟨#[97, 100, 117, 108, 116]⟩ (Fm.mk 3 ⟨#[97, 103, 101]⟩ 3 18 []) b11_l5) b11_l1 ([20, 0]) ([])))) && ((((decide ((checkR b11_l8 b11_l1 ([])) = (10 : Int))) && (decide ((checkR b11_l5 b11_l1 ([])) = (7 : Int)))) && (decide ((checkR b11_l2 b11_l1 ([])) = (0 : Int)))) && (decide ((checkR (Fm.mk 6 ⟨#[]⟩ 0 0 ([b11_l2])) b11_l1 ([])) = (1 : Int))))) && (fitsD b11_l1 ([20, 0]))) = true) → PureCall Tryd.prog 18 [.tv (.sli 1 ((namesF (Fm.mk 7 ⟨#[]⟩ 0 0 ([b11_l5, b11_l2, b11_l5])) []).map encStr)), .tv (.sli 1 (([⟨#[97, 100, 117, 108, 116]⟩] : List _).map encStr))] (.tv (.bool (sameL (namesF (Fm.mk 7 ⟨#[]⟩ 0 0 ([b11_l5, b11_l2, b11_l5])) []) ([⟨#[97, 100, 117, 108, 116]⟩])))), ((((((((((holdP b11_l2 b11_l1 ([20, 0]) ([])) && (decide ((szF b11_l2).1 = (4 : Int)))) && (decide ((szF b11_l2).2 = (3 : Int)))) && (holdP b11_l5 b11_l1 ([20, 0]) ([⟨#[97, 100, 117, 108, 116]⟩]))) && (!(holdP b11_l5 b11_l1 ([20, 0]) ([])))) && (!(holdP (expF ⟨#[97, 100, 117, 108, 116]⟩ (Fm.mk 3 ⟨#[97, 103, 101]⟩ 3 18 []) b11_l5) b11_l1 ([20, 0]) ([])))) && ((((decide ((checkR b11_l8 b11_l1 ([])) = (10 : Int))) && (decide ((checkR b11_l5 b11_l1 ([])) = (7 : Int)))) && (decide ((checkR b11_l2 b11_l1 ([])) = (0 : Int)))) && (decide ((checkR (Fm.mk 6 ⟨#[]⟩ 0 0 ([b11_l2])) b11_l1 ([])) = (1 : Int))))) && (fitsD b11_l1 ([20, 0]))) && (sameL (namesF (Fm.mk 7 ⟨#[]⟩ 0 0 ([b11_l5, b11_l2, b11_l5])) []) ([⟨#[97, 100, 117, 108, 116]⟩]))) = true) → PureCall Tryd.prog 21 [.agg [.tv (.int .i64 6), .tv (.str ⟨#[]⟩), .tv (.int .i64 0), .tv (.int .i64 0), .tv (.sli 5 (([(Fm.mk 3 ⟨#[97, 103, 101]⟩ 6 18 []), b11_l3]).map encF))], .agg [.tv (.int .i64 6), .tv (.str ⟨#[]⟩), .tv (.int .i64 0), .tv (.int .i64 0), .tv (.sli 5 (([(Fm.mk 3 ⟨#[97, 103, 101]⟩ 6 18 []), b11_l3]).map encF))]] (.tv (.bool (sameF b11_l2 b11_l2))), (((((((((((holdP b11_l2 b11_l1 ([20, 0]) ([])) && (decide ((szF b11_l2).1 = (4 : Int)))) && (decide ((szF b11_l2).2 = (3 : Int)))) && (holdP b11_l5 b11_l1 ([20, 0]) ([⟨#[97, 100, 117, 108, 116]⟩]))) && (!(holdP b11_l5 b11_l1 ([20, 0]) ([])))) && (!(holdP (expF ⟨#[97, 100, 117, 108, 116]⟩ (Fm.mk 3 ⟨#[97, 103, 101]⟩ 3 18 []) b11_l5) b11_l1 ([20, 0]) ([])))) && ((((decide ((checkR b11_l8 b11_l1 ([])) = (10 : Int))) && (decide ((checkR b11_l5 b11_l1 ([])) = (7 : Int)))) && (decide ((checkR b11_l2 b11_l1 ([])) = (0 : Int)))) && (decide ((checkR (Fm.mk 6 ⟨#[]⟩ 0 0 ([b11_l2])) b11_l1 ([])) = (1 : Int))))) && (fitsD b11_l1 ([20, 0]))) && (sameL (namesF (Fm.mk 7 ⟨#[]⟩ 0 0 ([b11_l5, b11_l2, b11_l5])) []) ([⟨#[97, 100, 117, 108, 116]⟩]))) && (sameF b11_l2 b11_l2)) = true) → PureCall Tryd.prog 21 [.agg [.tv (.int .i64 6), .tv (.str ⟨#[]⟩), .tv (.int .i64 0), .tv (.int .i64 0), .tv (.sli 5 (([(Fm.mk 3 ⟨#[97, 103, 101]⟩ 6 18 []), b11_l3]).map encF))], .agg [.tv (.int .i64 4), .tv (.str ⟨#[97, 100, 117, 108, 116]⟩), .tv (.int .i64 0), .tv (.int .i64 0), .tv .nils]] (.tv (.bool (sameF b11_l2 b11_l5)))] [(1000000, .any), (0, .tv (.bool (((((((((((holdP b11_l2 b11_l1 ([20, 0]) ([])) && (decide ((szF b11_l2).1 = (4 : Int)))) && (decide ((szF b11_l2).2 = (3 : Int)))) && (holdP b11_l5 b11_l1 ([20, 0]) ([⟨#[97, 100, 117, 108, 116]⟩]))) && (!(holdP b11_l5 b11_l1 ([20, 0]) ([])))) && (!(holdP (expF ⟨#[97, 100, 117, 108, 116]⟩ (Fm.mk 3 ⟨#[97, 103, 101]⟩ 3 18 []) b11_l5) b11_l1 ([20, 0]) ([])))) && ((((decide ((checkR b11_l8 b11_l1 ([])) = (10 : Int))) && (decide ((checkR b11_l5 b11_l1 ([])) = (7 : Int)))) && (decide ((checkR b11_l2 b11_l1 ([])) = (0 : Int)))) && (decide ((checkR (Fm.mk 6 ⟨#[]⟩ 0 0 ([b11_l2])) b11_l1 ([])) = (1 : Int))))) && (fitsD b11_l1 ([20, 0]))) && (sameL (namesF (Fm.mk 7 ⟨#[]⟩ 0 0 ([b11_l5, b11_l2, b11_l5])) []) ([⟨#[97, 100, 117, 108, 116]⟩]))) && (sameF b11_l2 b11_l2)) && (!(sameF b11_l2 b11_l5)))))] [b11_4, b11_3, b11_2, b11_1] 122 (by kernel_rfl) ?_ ?_
  · exact ⟨fun hg0 => (c30 b11_l1 [20, 0]), fun hg0 => ((c29 7 [b11_l5, b11_l2, b11_l5])).arg (.cons (Le.refl _) (.cons (Le.rows (.cons (.cons (TLe.refl _) (.cons (TLe.refl _) (.cons (TLe.refl _) (.cons (TLe.refl _) (.cons (TLe.nils 5) .nil))))) (.cons (TLs.refl _) (.cons (.cons (TLe.refl _) (.cons (TLe.refl _) (.cons (TLe.refl _) (.cons (TLe.refl _) (.cons (TLe.nils 5) .nil))))) .nil)))) .nil)), fun hg0 => (c19 (Fm.mk 7 ⟨#[]⟩ 0 0 ([b11_l5, b11_l2, b11_l5])) (by first | omega | decide | decide +kernel)), fun hg0 => rfl, fun hg0 => (c18 (namesF (Fm.mk 7 ⟨#[]⟩ 0 0 ([b11_l5, b11_l2, b11_l5])) []) [⟨#[97, 100, 117, 108, 116]⟩]), fun hg0 => (c21 b11_l2 b11_l2), fun hg0 => ((c21 b11_l2 b11_l5)).arg (.cons (Le.refl _) (.cons (Le.agg (.cons (Le.refl _) (.cons (Le.refl _) (.cons (Le.refl _) (.cons (Le.refl _) (.cons (Le.nils 5) .nil)))))) .nil)), trivial⟩
  refine at_ret ?_
  refine fin0 (.inr rfl) (.tv (.bool (((((((((((holdP b11_l2 b11_l1 ([20, 0]) ([])) && (decide ((szF b11_l2).1 = (4 : Int)))) && (decide ((szF b11_l2).2 = (3 : Int)))) && (holdP b11_l5 b11_l1 ([20, 0]) ([⟨#[97, 100, 117, 108, 116]⟩]))) && (!(holdP b11_l5 b11_l1 ([20, 0]) ([])))) && (!(holdP (expF ⟨#[97, 100, 117, 108, 116]⟩ (Fm.mk 3 ⟨#[97, 103, 101]⟩ 3 18 []) b11_l5) b11_l1 ([20, 0]) ([])))) && ((((decide ((checkR b11_l8 b11_l1 ([])) = (10 : Int))) && (decide ((checkR b11_l5 b11_l1 ([])) = (7 : Int)))) && (decide ((checkR b11_l2 b11_l1 ([])) = (0 : Int)))) && (decide ((checkR (Fm.mk 6 ⟨#[]⟩ 0 0 ([b11_l2])) b11_l1 ([])) = (1 : Int))))) && (fitsD b11_l1 ([20, 0]))) && (sameL (namesF (Fm.mk 7 ⟨#[]⟩ 0 0 ([b11_l5, b11_l2, b11_l5])) []) ([⟨#[97, 100, 117, 108, 116]⟩]))) && (sameF b11_l2 b11_l2)) && (!(sameF b11_l2 b11_l5))))) [b11_4, b11_3, b11_2, b11_1] (.tv (.bool (((((((((((holdP b11_l2 b11_l1 ([20, 0]) ([])) && (decide ((szF b11_l2).1 = (4 : Int)))) && (decide ((szF b11_l2).2 = (3 : Int)))) && (holdP b11_l5 b11_l1 ([20, 0]) ([⟨#[97, 100, 117, 108, 116]⟩]))) && (!(holdP b11_l5 b11_l1 ([20, 0]) ([])))) && (!(holdP (expF ⟨#[97, 100, 117, 108, 116]⟩ (Fm.mk 3 ⟨#[97, 103, 101]⟩ 3 18 []) b11_l5) b11_l1 ([20, 0]) ([])))) && ((((decide ((checkR b11_l8 b11_l1 ([])) = (10 : Int))) && (decide ((checkR b11_l5 b11_l1 ([])) = (7 : Int)))) && (decide ((checkR b11_l2 b11_l1 ([])) = (0 : Int)))) && (decide ((checkR (Fm.mk 6 ⟨#[]⟩ 0 0 ([b11_l2])) b11_l1 ([])) = (1 : Int))))) && (fitsD b11_l1 ([20, 0]))) && (sameL (namesF (Fm.mk 7 ⟨#[]⟩ 0 0 ([b11_l5, b11_l2, b11_l5])) []) ([⟨#[97, 100, 117, 108, 116]⟩]))) && (sameF b11_l2 b11_l2)) && (!(sameF b11_l2 b11_l5))))) (H2 := [b11_4, b11_3, b11_2, b11_1]) (by kernel_rfl) (by kernel_rfl) ?_
  refine Le.of_eq ?_
  first | rfl | (simp only [headV, cond_true, cond_false]; done) | (simp only [headV, cond_true, cond_false]; rfl)
end Go.Proofs.YtphmhelkojdlaaaDoor
namespace Go.Proofs.YtphmhelkojdlaaaDoor
open Go.RowKit
set_option linter.unusedSimpArgs false
set_option linter.unusedVariables false
theorem head_true : headV = true := by decide +kernel
theorem c11 : PureCall Tryd.prog 11 [] (.tv (.bool true)) := by
  have := c11a
  rw [head_true] at this
  exact this
end Go.Proofs.YtphmhelkojdlaaaDoor
