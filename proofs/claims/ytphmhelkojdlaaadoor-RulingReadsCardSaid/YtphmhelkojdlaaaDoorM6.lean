/- Part M6 of the proof. -/
import Derived.Test.YtphmhelkojdlaaaDoorM5
namespace Go.Proofs.YtphmhelkojdlaaaDoor
open Go.RowKit
set_option linter.unusedSimpArgs false
set_option linter.unusedVariables false
section
variable {d : Dm} {c : List Int} {l : List ByteArray} {g : Fm}
theorem formed_cm (h : formedR g = true) (ho : g.op = 3) : 1 ≤ g.cm ∧ g.cm ≤ 6 := by
 unfold formedR at h
 rw [ho] at h
 simp at h
 omega
theorem cmp_PR {a how b : Int} (h : 1 ≤ how ∧ how ≤ 6) : cmpP a how b = cmpR a how b := by
 obtain ⟨h1, h2⟩ := h
 have : how = 1 ∨ how = 2 ∨ how = 3 ∨ how = 4 ∨ how = 5 ∨ how = 6 := by omega
 unfold cmpP cmpR cmpI
 by_cases e1 : a < b
 ·have e2 : ¬ b < a := by omega
  have e3 : ¬ a = b := by omega
  have e4 : a ≤ b := by omega
  have e5 : ¬ b ≤ a := by omega
  rcases this with rfl | rfl | rfl | rfl | rfl | rfl <;> simp [e1, e2, e3, e4, e5]
 ·by_cases e2 : b < a
  ·have e3 : ¬ a = b := by omega
   have e4 : ¬ a ≤ b := by omega
   have e5 : b ≤ a := by omega
   rcases this with rfl | rfl | rfl | rfl | rfl | rfl <;> simp [e1, e2, e3, e4, e5]
  ·have e3 : a = b := by omega
   subst e3
   rcases this with rfl | rfl | rfl | rfl | rfl | rfl <;> simp
theorem hold_3 (h : decide (g.op = 3) = true) (hf : formedR g = true) : valF d c l g = cmpP (c.getD (idxF (fcN g.nm) d.fs 0).toNat 0) g.cm g.n := by
 have ho := of_decide_eq_true h
 rw [valF_eq, cmp_PR (formed_cm hf ho), ho]; rfl
theorem hold_4 (h : decide (g.op = 4) = true) : valF d c l g = List.any l (eqS g.nm) := by
 have ho := of_decide_eq_true h
 rw [valF_eq, anySR, ho]; rfl
theorem hold_5 (h : decide (g.op = 5) = true) (hf : formedR g = true) : valF d c l g = !valF d c l (g.ks.getD 0 Fm.z) := by
 have ho := of_decide_eq_true h
 have hk := val_kid hf ho
 rw [valF_eq, valHd_get (by omega), ho]; rfl
theorem all_any (ks : List Fm) : valAll d c l ks = !ks.any fun k => !valF d c l k := by
 induction ks with
 | nil => rfl
 | cons k r ih => rw [valAll, List.any_cons, ih]; cases valF d c l k <;> simp
theorem any_any (ks : List Fm) : valAny d c l ks = ks.any fun k => valF d c l k := by
 induction ks with
 | nil => rfl
 | cons k r ih => rw [valAny, List.any_cons, ih]
theorem hold_6 (h : decide (g.op = 6) = true) : valF d c l g = !decide (0 ≤ idxF (fun k => !valF d c l k) g.ks 0) := by
 have ho := of_decide_eq_true h
 rw [valF_eq, idx_any, ← all_any, ho]; rfl
theorem hold_7 (h : decide (g.op = 7) = true) : valF d c l g = decide (0 ≤ idxF (fun k => valF d c l k) g.ks 0) := by
 have ho := of_decide_eq_true h
 rw [valF_eq, idx_any, ← any_any, ho]; rfl
theorem formed_op (h : formedR g = true) : (g.op = 1 ∨ g.op = 2) ∧ g.ks = [] ∨ (g.op = 3 ∨ g.op = 4 ∨ g.op = 5 ∨ g.op = 6 ∨ g.op = 7) := by
 unfold formedR at h
 by_cases o1 : g.op = 1
 ·rw [o1] at h; simp at h; exact .inl ⟨.inl o1, h.2⟩
 by_cases o2 : g.op = 2
 ·rw [o2] at h; simp at h; exact .inl ⟨.inr o2, h.2⟩
 by_cases o3 : g.op = 3
 ·exact .inr (.inl o3)
 by_cases o4 : g.op = 4
 ·exact .inr (.inr (.inl o4))
 by_cases o5 : g.op = 5
 ·exact .inr (.inr (.inr (.inl o5)))
 by_cases o6 : g.op = 6
 ·exact .inr (.inr (.inr (.inr (.inl o6))))
 by_cases o7 : g.op = 7
 ·exact .inr (.inr (.inr (.inr (.inr o7))))
 simp [o1, o2, o3, o4, o5, o6, o7] at h
theorem hold_0 (hf : formedR g = true) (h3 : decide (g.op = 3) = false) (h4 : decide (g.op = 4) = false) (h5 : decide (g.op = 5) = false) (h6 : decide (g.op = 6) = false) (h7 : decide (g.op = 7) = false) : valF d c l g = decide (g.op = 1) := by
 simp only [decide_eq_false_iff_not] at h3 h4 h5 h6 h7
 rcases formed_op hf with ⟨h | h, hk⟩ | h
 ·rw [valF_eq, h]; rfl
 ·rw [valF_eq, h, hk]; rfl
 ·omega
def holdP (f : Fm) (d : Dm) (c : List Int) (l : List ByteArray) : Bool := (decide (checkA f d = 0) && fitsD d c) && valF d c l f
theorem holdP_f {f : Fm} (h : ((!decide (checkA f d = (0 : Int))) || (!(fitsD d c))) = true) : holdP f d c l = false := by
 unfold holdP
 cases h1 : decide (checkA f d = 0) <;> cases h2 : fitsD d c <;> rw [h1, h2] at h <;> first | rfl | cases h
theorem holdP_t {f : Fm} (h : ((!decide (checkA f d = (0 : Int))) || (!(fitsD d c))) = false) : holdP f d c l = valF d c l f := by
 unfold holdP
 cases h1 : decide (checkA f d = 0) <;> cases h2 : fitsD d c <;> rw [h1, h2] at h <;> first | rfl | cases h
theorem checkA_zero {f : Fm} (h : checkA f d = 0) : largeR f = false ∧ errF (oneR d [] true) f = 0 := by
 unfold checkA at h
 cases hl : largeR f with
 | true => rw [hl] at h; cases h
 | false => rw [hl] at h; exact ⟨rfl, h⟩
theorem fitsD_len (h : fitsD d c = true) : c.length = d.fs.length := by
 unfold fitsD at h
 by_cases e : (c.length : Int) = (d.fs.length : Int)
 ·omega
 ·rw [decide_eq_false e] at h; cases hv : validD d <;> rw [hv] at h <;> cases h
theorem holdP_hyp {f : Fm} (h : ((!decide (checkA f d = (0 : Int))) || (!(fitsD d c))) = false) : errF (oneR d [] true) f = 0 ∧ c.length = d.fs.length := by
 rw [Bool.or_eq_false_iff, Bool.not_eq_false', Bool.not_eq_false', decide_eq_true_eq] at h
 exact ⟨(checkA_zero h.1).2, fitsD_len h.2⟩
end
end Go.Proofs.YtphmhelkojdlaaaDoor
namespace Go.Proofs.YtphmhelkojdlaaaDoor
open Go.RowKit
set_option maxRecDepth 10000
set_option linter.unusedSimpArgs false
set_option linter.unusedVariables false
noncomputable abbrev b55_1 : Id × AO := ([3], .row [.fn (.func 55) [.ptr [0] 0, .ptr [1] 0, .ptr [2] 0, .ptr [3] 0]] false)
noncomputable abbrev b55_2 (l : (List ByteArray)) : Id × AO := ([2], .row [.tv (.sli 1 (l.map encStr))] false)
noncomputable abbrev b55_3 (c : (List Int)) : Id × AO := ([0], .row [.tv (.sli 1 (c.map encI))] false)
noncomputable abbrev b55_4 (g : Fm) : Id × AO := ([0, 50], .row ((celF g).map .tv) false)
noncomputable abbrev b55_5 (g : Fm) (i : Nat) : Id × AO := ([0, 8, 4, 3, 15, 50], .row ((celF (g.ks.getD i Fm.z)).map .tv) false)
noncomputable abbrev b55_6 (g : Fm) (c : (List Int)) (d : Dm) (l : (List ByteArray)) : Hp := [(b55_4 g), (b55_3 c), ([1], .row ((celD d).map .tv) false), (b55_2 l), b55_1]
noncomputable abbrev b55_7 (c : (List Int)) (d : Dm) (l : (List ByteArray)) : Hp := [(b55_3 c), ([1], .row ((celD d).map .tv) false), (b55_2 l), b55_1]
noncomputable abbrev b55_8 (g : Fm) (i : Nat) (c : (List Int)) (d : Dm) (l : (List ByteArray)) : Hp := [(b55_5 g i), (b55_4 g), (b55_3 c), ([1], .row ((celD d).map .tv) false), (b55_2 l), b55_1]
theorem c55 : ∀ (g : Fm) (d : Dm) (c : (List Int)) (l : (List ByteArray)), (errF (oneR d [] true) g = 0) → (c.length = d.fs.length) → StabCall Tryd.prog 55 [agF g, .ptr [0] 0, .ptr [1] 0, .ptr [2] 0, .ptr [3] 0] (b55_7 c d l) (.b (valF d c l g)) := by
 refine Fm.ind (fun g ih => ?_)
 intro d c l he hc
 have hz := errF_zero he
 have ho := one_zero hz.1
 refine stab_mv (args := [agF g, .ptr [0] 0, .ptr [1] 0, .ptr [2] 0, .ptr [3] 0]) (H := (b55_7 c d l)) (H2 := (b55_7 c d l)) (q := [50]) [([0], [0]), ([1], [1]), ([2], [2]), ([3], [3])] [([0], [0]), ([1], [1]), ([2], [2]), ([3], [3])] [] [] ?_ (by kernel_rfl) (by kernel_rfl) (trivial) (by kernel_rfl) (by kernel_rfl) (trivial)
 refine call_in (fn := Tryd.f55) [.tmp 6] Tryd.func55 rfl (by kernel_rfl) rfl ?_
 change AT _ _ _ ⟨[(0, agF g), (1, .ptr [0] 0), (2, .ptr [1] 0), (3, .ptr [2] 0), (4, .ptr [3] 0)], (b55_7 c d l), [50], 0⟩
 refine at_B [1, 2, 3, 4, 5] [] [] [(1000000, .any), (1, .ptr [0] 0), (2, .ptr [1] 0), (3, .ptr [2] 0), (4, .ptr [3] 0), (5, .ptr [0, 50] 0)] (b55_6 g c d l) 2 (by kernel_rfl) ?_ ?_
 ·exact trivial
 refine at_seq ?_
 refine at_B [1, 2, 3, 4, 5, 8] [] [] [(1000000, .any), (1, .ptr [0] 0), (2, .ptr [1] 0), (3, .ptr [2] 0), (4, .ptr [3] 0), (5, .ptr [0, 50] 0), (8, .i g.op)] (b55_6 g c d l) 4 (by kernel_rfl) ?_ ?_
 ·exact trivial
 refine at_block ?_
 refine at_B [1, 2, 3, 4, 5, 8, 9] [] [] [(1000000, .any), (1, .ptr [0] 0), (2, .ptr [1] 0), (3, .ptr [2] 0), (4, .ptr [3] 0), (5, .ptr [0, 50] 0), (8, .i g.op), (9, .b (decide (g.op = (3 : Int))))] (b55_6 g c d l) 6 (by kernel_rfl) ?_ ?_
 ·exact trivial
 refine at_cond (b := (decide (g.op = (3 : Int)))) rfl rfl (fun hc9_1 => ?_) (fun hc9_1 => ?_)
 ·have q9_1 := hc9_1
  (try simp only [brs] at q9_1)
  have hix := val_ix ho.2.2 hc9_1
  refine at_D [some [[0]], some [[1]], none, some [[0, 50]], none, none, some [], none, some [[0, 50]], none, some [[0, 50]]] [0, 0, 0, 4, 14, 31, 63, 0, 128, 0, 512, 2047, 4095] [6] [.std, .std, .std, .std, .ret (.i (idxF (fcN g.nm) d.fs 0)), .eq (.tv (.ptr [.int .i64 (c.getD (idxF (fcN g.nm) d.fs 0).toNat 0)])), .std, .std, .std, .std, .std, .ret (.b (cmpP (c.getD (idxF (fcN g.nm) d.fs 0).toNat 0) g.cm g.n))] [PureCall Tryd.prog 57 [agD d, .tv (.str g.nm)] (.i (idxF (fcN g.nm) d.fs 0)), (0 ≤ (idxF (fcN g.nm) d.fs 0) ∧ (idxF (fcN g.nm) d.fs 0) < ((((c.map encI) : List (List TV)).length : Nat) : Int)), (.tv (.ptr (rowAt (c.map encI) (idxF (fcN g.nm) d.fs 0))) : AV) = .tv (.ptr [.int .i64 (c.getD (idxF (fcN g.nm) d.fs 0).toNat 0)]), PureCall Tryd.prog 56 [.i (c.getD (idxF (fcN g.nm) d.fs 0).toNat 0), .i g.cm, .i g.n] (.b (cmpP (c.getD (idxF (fcN g.nm) d.fs 0).toNat 0) g.cm g.n))] [(1000000, .any), (6, .b (cmpP (c.getD (idxF (fcN g.nm) d.fs 0).toNat 0) g.cm g.n))] (b55_6 g c d l) 19 (by kernel_rfl) ?_ ?_
  ·exact ⟨(c57 d g.nm), by (try simp only [lns] at *); omega, congrArg (fun c => AV.tv (.ptr c)) (row_enc encI c (idxF (fcN g.nm) d.fs 0) 0 (by (try simp only [brs, lns] at *); omega)), (c56 (c.getD (idxF (fcN g.nm) d.fs 0).toNat 0) g.cm g.n), trivial⟩
  refine at_ret ?_
  exact fin_in (.inr rfl) [[0], [1], [2], [3]] (.b (cmpP (c.getD (idxF (fcN g.nm) d.fs 0).toNat 0) g.cm g.n)) (b55_6 g c d l) (by kernel_rfl) (by rw [hold_3 hc9_1 ho.1]) (by kernel_rfl)
 ·have q9_1 := hc9_1
  (try simp only [brs] at q9_1)
  refine at_B [3, 4, 5, 8, 23] [] [] [(1000000, .any), (3, .ptr [2] 0), (4, .ptr [3] 0), (5, .ptr [0, 50] 0), (8, .i g.op), (23, .b (decide (g.op = (4 : Int))))] (b55_6 g c d l) 8 (by kernel_rfl) ?_ ?_
  ·exact trivial
  refine at_cond (b := (decide (g.op = (4 : Int)))) rfl rfl (fun hc23_1 => ?_) (fun hc23_1 => ?_)
  ·have q23_1 := hc23_1
   (try simp only [brs] at q23_1)
   refine at_B [6] [.std, .std, .std, .ret (.b (List.any l (eqS g.nm)))] [PureCall Tryd.prog 46 [.tv (.sli 1 (l.map encStr)), .tv (.str g.nm)] (.b (List.any l (eqS g.nm)))] [(1000000, .any), (6, .b (List.any l (eqS g.nm)))] (b55_6 g c d l) 13 (by kernel_rfl) ?_ ?_
   ·exact ⟨(c46 l g.nm), trivial⟩
   refine at_ret ?_
   exact fin_in (.inr rfl) [[0], [1], [2], [3]] (.b (List.any l (eqS g.nm))) (b55_6 g c d l) (by kernel_rfl) (by rw [hold_4 hc23_1]) (by kernel_rfl)
  ·have q23_1 := hc23_1
   (try simp only [brs] at q23_1)
   refine at_B [4, 5, 8, 29] [] [] [(1000000, .any), (4, .ptr [3] 0), (5, .ptr [0, 50] 0), (8, .i g.op), (29, .b (decide (g.op = (5 : Int))))] (b55_6 g c d l) 10 (by kernel_rfl) ?_ ?_
   ·exact trivial
   refine at_cond (b := (decide (g.op = (5 : Int)))) rfl rfl (fun hc29_1 => ?_) (fun hc29_1 => ?_)
   ·have q29_1 := hc29_1
    (try simp only [brs] at q29_1)
    have hk1 := val_kid ho.1 (by simpa using hc29_1)
    refine at_D [some [[3]], none, some [[0, 50]], none, some []] [0, 0, 2, 6, 14, 31, 63, 127] [6] [.std, .std, .std, .eq (.tv (.ptr (celF (g.ks.getD 0 Fm.z)))), .std, .retS (.b (valF d c l (g.ks.getD 0 Fm.z)))] [(0 ≤ (0 : Int) ∧ (0 : Int) < ((((g.ks.map encF) : List (List TV)).length : Nat) : Int)), (.tv (.ptr (rowAt (g.ks.map encF) (0 : Int))) : AV) = .tv (.ptr (celF (g.ks.getD 0 Fm.z))), StabCall Tryd.prog 55 [agF (g.ks.getD 0 Fm.z), .ptr [0] 0, .ptr [1] 0, .ptr [2] 0, .ptr [3] 0] (b55_6 g c d l) (.b (valF d c l (g.ks.getD 0 Fm.z)))] [(1000000, .any), (6, .b (!(valF d c l (g.ks.getD 0 Fm.z))))] (b55_6 g c d l) 18 (by kernel_rfl) ?_ ?_
    ·exact ⟨by (try simp only [lns] at *); omega, congrArg (fun c => AV.tv (.ptr c)) (row_F g.ks (0 : Int) (by (try simp only [brs, lns] at *); omega)), StabCall.mono (H := (b55_7 c d l)) (ih (g.ks.getD 0 Fm.z) (getD_mem (by omega)) _ _ _ (hz.2 _ (getD_mem (by omega))) hc) (sub_cons (by kernel_rfl) (sub_cons (by kernel_rfl) (sub_cons (by kernel_rfl) (sub_cons (by kernel_rfl) sub_nil)))), trivial⟩
    refine at_ret ?_
    exact fin_in (.inr rfl) [[0], [1], [2], [3]] (.b (!(valF d c l (g.ks.getD 0 Fm.z)))) (b55_6 g c d l) (by kernel_rfl) (by rw [hold_5 hc29_1 ho.1]) (by kernel_rfl)
   ·have q29_1 := hc29_1
    (try simp only [brs] at q29_1)
    refine at_B [4, 5, 8, 38] [] [] [(1000000, .any), (4, .ptr [3] 0), (5, .ptr [0, 50] 0), (8, .i g.op), (38, .b (decide (g.op = (6 : Int))))] (b55_6 g c d l) 12 (by kernel_rfl) ?_ ?_
    ·exact trivial
    refine at_cond (b := (decide (g.op = (6 : Int)))) rfl rfl (fun hc38_1 => ?_) (fun hc38_1 => ?_)
    ·have q38_1 := hc38_1
     (try simp only [brs] at q38_1)
     refine at_B [6] [.std, .std, .std, .retH (.b (decide ((0 : Int) ≤ idxF (fun k => !valF d c l k) g.ks 0))) (b55_6 g c d l)] [CallOK Tryd.prog 58 [.tv (.sli 5 (g.ks.map encF)), .fn (.func 59) [.ptr [3] 0]] (b55_6 g c d l) [15, 50] (fun v1 H1 => v1 = (.b (decide ((0 : Int) ≤ idxF (fun k => !valF d c l k) g.ks 0))) ∧ H1 = (b55_6 g c d l))] [(1000000, .any), (6, .b (!(decide ((0 : Int) ≤ idxF (fun k => !valF d c l k) g.ks 0))))] (b55_6 g c d l) 18 (by kernel_rfl) ?_ ?_
     ·refine ⟨?_, trivial⟩
      ·refine call_in (fn := Tryd.f58) [.tmp 4] Tryd.func58 rfl (by kernel_rfl) rfl ?_
       change AT _ _ _ ⟨[(0, .tv (.sli 5 (g.ks.map encF))), (1, .fn (.func 59) [.ptr [3] 0])], (b55_6 g c d l), [15, 50], 0⟩
       refine at_B [0, 1] [] [] [(1000000, .any), (0, .tv (.sli 5 (g.ks.map encF))), (1, .fn (.func 59) [.ptr [3] 0])] (b55_6 g c d l) 1 (by kernel_rfl) ?_ ?_
       ·exact trivial
       refine at_B [4] [.std, .std, .retH (.i (idxF (fun k => !valF d c l k) g.ks 0)) (b55_6 g c d l)] [CallOK Tryd.prog 80 [.tv (.sli 5 (g.ks.map encF)), .fn (.func 59) [.ptr [3] 0]] (b55_6 g c d l) [3, 15, 50] (fun v1 H1 => v1 = (.i (idxF (fun k => !valF d c l k) g.ks 0)) ∧ H1 = (b55_6 g c d l))] [(1000000, .any), (4, .b (decide ((0 : Int) ≤ idxF (fun k => !valF d c l k) g.ks 0)))] (b55_6 g c d l) 6 (by kernel_rfl) ?_ ?_
       ·refine ⟨?_, trivial⟩
        ·refine call_in (fn := Tryd.f80) [.tmp 4] Tryd.func80 rfl (by kernel_rfl) rfl ?_
         change AT _ _ _ ⟨[(0, .tv (.sli 5 (g.ks.map encF))), (1, .fn (.func 59) [.ptr [3] 0])], (b55_6 g c d l), [3, 15, 50], 0⟩
         refine at_B [0, 1] [] [] [(1000000, .any), (0, .tv (.sli 5 (g.ks.map encF))), (1, .fn (.func 59) [.ptr [3] 0])] (b55_6 g c d l) 1 (by kernel_rfl) ?_ ?_
         ·exact trivial
         refine at_seq ?_
         refine at_B [0, 1, 7, 8] [] [] [(1000000, .any), (0, .tv (.sli 5 (g.ks.map encF))), (1, .fn (.func 59) [.ptr [3] 0]), (7, .i (((g.ks.map encF).length : Nat) : Int)), (8, .i 0)] (b55_6 g c d l) 4 (by kernel_rfl) ?_ ?_
         ·exact trivial
         refine at_block ?_
         refine at_len 0 rfl (fun hlen => ?_)
         refine at_loopR (X := Nat) 0 (fun (i : Nat) => [(1000000, .any), (0, .tv (.sli 5 (g.ks.map encF))), (1, .fn (.func 59) [.ptr [3] 0]), (7, .i (((g.ks.map encF).length : Nat) : Int)), (8, .i ((i : Nat) : Int))]) (fun (i : Nat) => (b55_6 g c d l)) (fun (i : Nat) => i ≤ g.ks.length ∧ idxF (fun k => !valF d c l k) (g.ks.drop i) i = idxF (fun k => !valF d c l k) g.ks 0) (fun (i : Nat) => g.ks.length - i) 0 ?_ ?_ ?_
         ·exact ⟨Nat.zero_le _, rfl⟩
         ·exact rn_ok [([0, 50], [0, 50]), ([0], [0]), ([1], [1]), ([2], [2]), ([3], [3])] [] [0, 1, 7, 8] (trivial) (by kernel_rfl)
         ·intro i hinv
          obtain ⟨hx1, hx2⟩ := hinv
          refine at_B [0, 1, 7, 8, 9] [] [] [(1000000, .any), (0, .tv (.sli 5 (g.ks.map encF))), (1, .fn (.func 59) [.ptr [3] 0]), (7, .i (((g.ks.map encF).length : Nat) : Int)), (8, .i ((i : Nat) : Int)), (9, .b (decide (((i : Nat) : Int) < (((g.ks.map encF).length : Nat) : Int))))] (b55_6 g c d l) 1 (by kernel_rfl) ?_ ?_
          ·exact trivial
          refine at_seq ?_
          refine at_cond (b := (decide (((i : Nat) : Int) < (((g.ks.map encF).length : Nat) : Int)))) rfl rfl (fun hc9_6 => ?_) (fun hc9_6 => ?_)
          ·have q9_6 := hc9_6
           (try simp only [brs] at q9_6)
           refine at_skip ?_
           change AT _ _ _ _
           refine at_seq ?_
           refine at_block ?_
           refine at_B [0, 1, 5, 7, 8] [] [] [(1000000, .any), (0, .tv (.sli 5 (g.ks.map encF))), (1, .fn (.func 59) [.ptr [3] 0]), (5, .i ((i : Nat) : Int)), (7, .i (((g.ks.map encF).length : Nat) : Int)), (8, .i ((i : Nat) : Int))] (b55_6 g c d l) 3 (by kernel_rfl) ?_ ?_
           ·exact trivial
           refine at_B [0, 1, 5, 7, 8, 16] [.std, .std, .std, .eq (.tv (.ptr (celF (g.ks.getD i Fm.z)))), .std, .retH (.b (!(valF d c l (g.ks.getD i Fm.z)))) (b55_6 g c d l)] [(0 ≤ ((i : Nat) : Int) ∧ ((i : Nat) : Int) < ((((g.ks.map encF) : List (List TV)).length : Nat) : Int)), (.tv (.ptr (rowAt (g.ks.map encF) ((i : Nat) : Int))) : AV) = .tv (.ptr (celF (g.ks.getD i Fm.z))), CallOK Tryd.prog 59 [agF (g.ks.getD i Fm.z), .ptr [3] 0] (b55_6 g c d l) [8, 4, 3, 15, 50] (fun v1 H1 => v1 = (.b (!(valF d c l (g.ks.getD i Fm.z)))) ∧ H1 = (b55_6 g c d l))] [(1000000, .any), (0, .tv (.sli 5 (g.ks.map encF))), (1, .fn (.func 59) [.ptr [3] 0]), (5, .i ((i : Nat) : Int)), (7, .i (((g.ks.map encF).length : Nat) : Int)), (8, .i ((i : Nat) : Int)), (16, .b (!(valF d c l (g.ks.getD i Fm.z))))] (b55_6 g c d l) 9 (by kernel_rfl) ?_ ?_
           ·refine ⟨by (try simp only [lns] at *); omega, congrArg (fun c => AV.tv (.ptr c)) (row_F g.ks ((i : Nat) : Int) (by (try simp only [brs, lns] at *); omega)), ?_, trivial⟩
            ·refine call_in (fn := Tryd.f59) [.tmp 3] Tryd.func59 rfl (by kernel_rfl) rfl ?_
             change AT _ _ _ ⟨[(0, agF (g.ks.getD i Fm.z)), (1, .ptr [3] 0)], (b55_6 g c d l), [8, 4, 3, 15, 50], 0⟩
             refine at_B [1, 2] [] [] [(1000000, .any), (1, .ptr [3] 0), (2, .ptr [0, 8, 4, 3, 15, 50] 0)] (b55_8 g i c d l) 2 (by kernel_rfl) ?_ ?_
             ·exact trivial
             refine at_B [3] [.std, .std, .retS (.b (valF d c l (g.ks.getD i Fm.z)))] [StabCall Tryd.prog 55 [agF (g.ks.getD i Fm.z), .ptr [0] 0, .ptr [1] 0, .ptr [2] 0, .ptr [3] 0] (b55_8 g i c d l) (.b (valF d c l (g.ks.getD i Fm.z)))] [(1000000, .any), (3, .b (!(valF d c l (g.ks.getD i Fm.z))))] (b55_8 g i c d l) 7 (by kernel_rfl) ?_ ?_
             ·exact ⟨StabCall.mono (H := (b55_7 c d l)) (ih (g.ks.getD i Fm.z) (getD_mem (by omega)) _ _ _ (hz.2 _ (getD_mem (by omega))) hc) (sub_cons (by kernel_rfl) (sub_cons (by kernel_rfl) (sub_cons (by kernel_rfl) (sub_cons (by kernel_rfl) sub_nil)))), trivial⟩
             refine at_ret ?_
             exact fin_in (.inr rfl) [[0, 50], [0], [1], [2], [3]] (.b (!(valF d c l (g.ks.getD i Fm.z)))) (b55_8 g i c d l) (by kernel_rfl) rfl (by kernel_rfl)
           refine at_cond (b := (!(valF d c l (g.ks.getD i Fm.z)))) rfl rfl (fun hc16_6 => ?_) (fun hc16_6 => ?_)
           ·have q16_6 := hc16_6
            (try simp only [brs] at q16_6)
            refine at_B [4] [] [] [(1000000, .any), (4, .i ((i : Nat) : Int))] (b55_6 g c d l) 11 (by kernel_rfl) ?_ ?_
            ·exact trivial
            refine at_ret ?_
            exact fin_in (.inr rfl) [[0, 50], [0], [1], [2], [3]] (.i ((i : Nat) : Int)) (b55_6 g c d l) (by kernel_rfl) (by rw [idx_stop (p := (fun k => !valF d c l k)) (i := i) Fm.z (by omega) hx2 hc16_6]) (by kernel_rfl)
           ·have q16_6 := hc16_6
            (try simp only [brs] at q16_6)
            refine at_skip ?_
            change AT _ _ _ _
            refine at_Bl [0, 1, 7, 8] [.eq (.i ((i + 1 : Nat) : Int))] [(.i (wr (((i : Nat) : Int) + 1)) : AV) = .i ((i + 1 : Nat) : Int)] [(1000000, .any), (0, .tv (.sli 5 (g.ks.map encF))), (1, .fn (.func 59) [.ptr [3] 0]), (7, .i (((g.ks.map encF).length : Nat) : Int)), (8, .i ((i + 1 : Nat) : Int))] (b55_6 g c d l) 11 (by kernel_rfl) ?_ ?_
            ·exact ⟨succ_av i (by (try simp only [lns] at *); omega), trivial⟩
            refine ⟨rfl, (i + 1), ?_, ?_, ?_⟩
            ·(try dsimp only); omega
            ·exact ⟨by omega, idx_step (p := (fun k => !valF d c l k)) Fm.z (by omega) hx2 hc16_6⟩
            ·exact rn_ok [([0, 50], [0, 50]), ([0], [0]), ([1], [1]), ([2], [2]), ([3], [3])] [] [0, 1, 7, 8] (trivial) (by kernel_rfl)
          ·have q9_6 := hc9_6
           (try simp only [brs] at q9_6)
           refine at_exit ?_
           change AT _ _ _ _
           refine at_B [4] [] [] [(1000000, .any), (4, .i (-1))] (b55_6 g c d l) 6 (by kernel_rfl) ?_ ?_
           ·exact trivial
           refine at_ret ?_
           exact fin_in (.inr rfl) [[0, 50], [0], [1], [2], [3]] (.i (-1)) (b55_6 g c d l) (by kernel_rfl) (by rw [idx_end (p := (fun k => !valF d c l k)) (i := i) (by omega) hx2]) (by kernel_rfl)
       refine at_ret ?_
       exact fin_in (.inr rfl) [[0, 50], [0], [1], [2], [3]] (.b (decide ((0 : Int) ≤ idxF (fun k => !valF d c l k) g.ks 0))) (b55_6 g c d l) (by kernel_rfl) rfl (by kernel_rfl)
     refine at_ret ?_
     exact fin_in (.inr rfl) [[0], [1], [2], [3]] (.b (!(decide ((0 : Int) ≤ idxF (fun k => !valF d c l k) g.ks 0)))) (b55_6 g c d l) (by kernel_rfl) (by rw [hold_6 hc38_1]) (by kernel_rfl)
    ·have q38_1 := hc38_1
     (try simp only [brs] at q38_1)
     refine at_B [4, 5, 45] [] [] [(1000000, .any), (4, .ptr [3] 0), (5, .ptr [0, 50] 0), (45, .b (decide (g.op = (7 : Int))))] (b55_6 g c d l) 14 (by kernel_rfl) ?_ ?_
     ·exact trivial
     refine at_cond (b := (decide (g.op = (7 : Int)))) rfl rfl (fun hc45_1 => ?_) (fun hc45_1 => ?_)
     ·have q45_1 := hc45_1
      (try simp only [brs] at q45_1)
      refine at_B [6] [.std, .std, .std, .retH (.b (decide ((0 : Int) ≤ idxF (fun k => valF d c l k) g.ks 0))) (b55_6 g c d l)] [CallOK Tryd.prog 58 [.tv (.sli 5 (g.ks.map encF)), .fn (.func 55) [.ptr [0] 0, .ptr [1] 0, .ptr [2] 0, .ptr [3] 0]] (b55_6 g c d l) [17, 50] (fun v1 H1 => v1 = (.b (decide ((0 : Int) ≤ idxF (fun k => valF d c l k) g.ks 0))) ∧ H1 = (b55_6 g c d l))] [(1000000, .any), (6, .b (decide ((0 : Int) ≤ idxF (fun k => valF d c l k) g.ks 0)))] (b55_6 g c d l) 19 (by kernel_rfl) ?_ ?_
      ·refine ⟨?_, trivial⟩
       ·refine call_in (fn := Tryd.f58) [.tmp 4] Tryd.func58 rfl (by kernel_rfl) rfl ?_
        change AT _ _ _ ⟨[(0, .tv (.sli 5 (g.ks.map encF))), (1, .fn (.func 55) [.ptr [0] 0, .ptr [1] 0, .ptr [2] 0, .ptr [3] 0])], (b55_6 g c d l), [17, 50], 0⟩
        refine at_B [0, 1] [] [] [(1000000, .any), (0, .tv (.sli 5 (g.ks.map encF))), (1, .fn (.func 55) [.ptr [0] 0, .ptr [1] 0, .ptr [2] 0, .ptr [3] 0])] (b55_6 g c d l) 1 (by kernel_rfl) ?_ ?_
        ·exact trivial
        refine at_B [4] [.std, .std, .retH (.i (idxF (fun k => valF d c l k) g.ks 0)) (b55_6 g c d l)] [CallOK Tryd.prog 80 [.tv (.sli 5 (g.ks.map encF)), .fn (.func 55) [.ptr [0] 0, .ptr [1] 0, .ptr [2] 0, .ptr [3] 0]] (b55_6 g c d l) [3, 17, 50] (fun v1 H1 => v1 = (.i (idxF (fun k => valF d c l k) g.ks 0)) ∧ H1 = (b55_6 g c d l))] [(1000000, .any), (4, .b (decide ((0 : Int) ≤ idxF (fun k => valF d c l k) g.ks 0)))] (b55_6 g c d l) 6 (by kernel_rfl) ?_ ?_
        ·refine ⟨?_, trivial⟩
         ·refine call_in (fn := Tryd.f80) [.tmp 4] Tryd.func80 rfl (by kernel_rfl) rfl ?_
          change AT _ _ _ ⟨[(0, .tv (.sli 5 (g.ks.map encF))), (1, .fn (.func 55) [.ptr [0] 0, .ptr [1] 0, .ptr [2] 0, .ptr [3] 0])], (b55_6 g c d l), [3, 17, 50], 0⟩
          refine at_B [0, 1] [] [] [(1000000, .any), (0, .tv (.sli 5 (g.ks.map encF))), (1, .fn (.func 55) [.ptr [0] 0, .ptr [1] 0, .ptr [2] 0, .ptr [3] 0])] (b55_6 g c d l) 1 (by kernel_rfl) ?_ ?_
          ·exact trivial
          refine at_seq ?_
          refine at_B [0, 1, 7, 8] [] [] [(1000000, .any), (0, .tv (.sli 5 (g.ks.map encF))), (1, .fn (.func 55) [.ptr [0] 0, .ptr [1] 0, .ptr [2] 0, .ptr [3] 0]), (7, .i (((g.ks.map encF).length : Nat) : Int)), (8, .i 0)] (b55_6 g c d l) 4 (by kernel_rfl) ?_ ?_
          ·exact trivial
          refine at_block ?_
          refine at_len 0 rfl (fun hlen => ?_)
          refine at_loopR (X := Nat) 0 (fun (i : Nat) => [(1000000, .any), (0, .tv (.sli 5 (g.ks.map encF))), (1, .fn (.func 55) [.ptr [0] 0, .ptr [1] 0, .ptr [2] 0, .ptr [3] 0]), (7, .i (((g.ks.map encF).length : Nat) : Int)), (8, .i ((i : Nat) : Int))]) (fun (i : Nat) => (b55_6 g c d l)) (fun (i : Nat) => i ≤ g.ks.length ∧ idxF (fun k => valF d c l k) (g.ks.drop i) i = idxF (fun k => valF d c l k) g.ks 0) (fun (i : Nat) => g.ks.length - i) 0 ?_ ?_ ?_
          ·exact ⟨Nat.zero_le _, rfl⟩
          ·exact rn_ok [([0, 50], [0, 50]), ([0], [0]), ([1], [1]), ([2], [2]), ([3], [3])] [] [0, 1, 7, 8] (trivial) (by kernel_rfl)
          ·intro i hinv
           obtain ⟨hx1, hx2⟩ := hinv
           refine at_B [0, 1, 7, 8, 9] [] [] [(1000000, .any), (0, .tv (.sli 5 (g.ks.map encF))), (1, .fn (.func 55) [.ptr [0] 0, .ptr [1] 0, .ptr [2] 0, .ptr [3] 0]), (7, .i (((g.ks.map encF).length : Nat) : Int)), (8, .i ((i : Nat) : Int)), (9, .b (decide (((i : Nat) : Int) < (((g.ks.map encF).length : Nat) : Int))))] (b55_6 g c d l) 1 (by kernel_rfl) ?_ ?_
           ·exact trivial
           refine at_seq ?_
           refine at_cond (b := (decide (((i : Nat) : Int) < (((g.ks.map encF).length : Nat) : Int)))) rfl rfl (fun hc9_11 => ?_) (fun hc9_11 => ?_)
           ·have q9_11 := hc9_11
            (try simp only [brs] at q9_11)
            refine at_skip ?_
            change AT _ _ _ _
            refine at_seq ?_
            refine at_block ?_
            refine at_B [0, 1, 5, 7, 8] [] [] [(1000000, .any), (0, .tv (.sli 5 (g.ks.map encF))), (1, .fn (.func 55) [.ptr [0] 0, .ptr [1] 0, .ptr [2] 0, .ptr [3] 0]), (5, .i ((i : Nat) : Int)), (7, .i (((g.ks.map encF).length : Nat) : Int)), (8, .i ((i : Nat) : Int))] (b55_6 g c d l) 3 (by kernel_rfl) ?_ ?_
            ·exact trivial
            refine at_B [0, 1, 5, 7, 8, 16] [.std, .std, .std, .eq (.tv (.ptr (celF (g.ks.getD i Fm.z)))), .std, .retS (.b (valF d c l (g.ks.getD i Fm.z)))] [(0 ≤ ((i : Nat) : Int) ∧ ((i : Nat) : Int) < ((((g.ks.map encF) : List (List TV)).length : Nat) : Int)), (.tv (.ptr (rowAt (g.ks.map encF) ((i : Nat) : Int))) : AV) = .tv (.ptr (celF (g.ks.getD i Fm.z))), StabCall Tryd.prog 55 [agF (g.ks.getD i Fm.z), .ptr [0] 0, .ptr [1] 0, .ptr [2] 0, .ptr [3] 0] (b55_6 g c d l) (.b (valF d c l (g.ks.getD i Fm.z)))] [(1000000, .any), (0, .tv (.sli 5 (g.ks.map encF))), (1, .fn (.func 55) [.ptr [0] 0, .ptr [1] 0, .ptr [2] 0, .ptr [3] 0]), (5, .i ((i : Nat) : Int)), (7, .i (((g.ks.map encF).length : Nat) : Int)), (8, .i ((i : Nat) : Int)), (16, .b (valF d c l (g.ks.getD i Fm.z)))] (b55_6 g c d l) 9 (by kernel_rfl) ?_ ?_
            ·exact ⟨by (try simp only [lns] at *); omega, congrArg (fun c => AV.tv (.ptr c)) (row_F g.ks ((i : Nat) : Int) (by (try simp only [brs, lns] at *); omega)), StabCall.mono (H := (b55_7 c d l)) (ih (g.ks.getD i Fm.z) (getD_mem (by omega)) _ _ _ (hz.2 _ (getD_mem (by omega))) hc) (sub_cons (by kernel_rfl) (sub_cons (by kernel_rfl) (sub_cons (by kernel_rfl) (sub_cons (by kernel_rfl) sub_nil)))), trivial⟩
            refine at_cond (b := (valF d c l (g.ks.getD i Fm.z))) rfl rfl (fun hc16_11 => ?_) (fun hc16_11 => ?_)
            ·have q16_11 := hc16_11
             (try simp only [brs] at q16_11)
             refine at_B [4] [] [] [(1000000, .any), (4, .i ((i : Nat) : Int))] (b55_6 g c d l) 11 (by kernel_rfl) ?_ ?_
             ·exact trivial
             refine at_ret ?_
             exact fin_in (.inr rfl) [[0, 50], [0], [1], [2], [3]] (.i ((i : Nat) : Int)) (b55_6 g c d l) (by kernel_rfl) (by rw [idx_stop (p := (fun k => valF d c l k)) (i := i) Fm.z (by omega) hx2 hc16_11]) (by kernel_rfl)
            ·have q16_11 := hc16_11
             (try simp only [brs] at q16_11)
             refine at_skip ?_
             change AT _ _ _ _
             refine at_Bl [0, 1, 7, 8] [.eq (.i ((i + 1 : Nat) : Int))] [(.i (wr (((i : Nat) : Int) + 1)) : AV) = .i ((i + 1 : Nat) : Int)] [(1000000, .any), (0, .tv (.sli 5 (g.ks.map encF))), (1, .fn (.func 55) [.ptr [0] 0, .ptr [1] 0, .ptr [2] 0, .ptr [3] 0]), (7, .i (((g.ks.map encF).length : Nat) : Int)), (8, .i ((i + 1 : Nat) : Int))] (b55_6 g c d l) 11 (by kernel_rfl) ?_ ?_
             ·exact ⟨succ_av i (by (try simp only [lns] at *); omega), trivial⟩
             refine ⟨rfl, (i + 1), ?_, ?_, ?_⟩
             ·(try dsimp only); omega
             ·exact ⟨by omega, idx_step (p := (fun k => valF d c l k)) Fm.z (by omega) hx2 hc16_11⟩
             ·exact rn_ok [([0, 50], [0, 50]), ([0], [0]), ([1], [1]), ([2], [2]), ([3], [3])] [] [0, 1, 7, 8] (trivial) (by kernel_rfl)
           ·have q9_11 := hc9_11
            (try simp only [brs] at q9_11)
            refine at_exit ?_
            change AT _ _ _ _
            refine at_B [4] [] [] [(1000000, .any), (4, .i (-1))] (b55_6 g c d l) 6 (by kernel_rfl) ?_ ?_
            ·exact trivial
            refine at_ret ?_
            exact fin_in (.inr rfl) [[0, 50], [0], [1], [2], [3]] (.i (-1)) (b55_6 g c d l) (by kernel_rfl) (by rw [idx_end (p := (fun k => valF d c l k)) (i := i) (by omega) hx2]) (by kernel_rfl)
        refine at_ret ?_
        exact fin_in (.inr rfl) [[0, 50], [0], [1], [2], [3]] (.b (decide ((0 : Int) ≤ idxF (fun k => valF d c l k) g.ks 0))) (b55_6 g c d l) (by kernel_rfl) rfl (by kernel_rfl)
      refine at_ret ?_
      exact fin_in (.inr rfl) [[0], [1], [2], [3]] (.b (decide ((0 : Int) ≤ idxF (fun k => valF d c l k) g.ks 0))) (b55_6 g c d l) (by kernel_rfl) (by rw [hold_7 hc45_1]) (by kernel_rfl)
     ·have q45_1 := hc45_1
      (try simp only [brs] at q45_1)
      refine at_skip ?_
      change AT _ _ _ _
      refine at_B [6] [] [] [(1000000, .any), (6, .b (decide (g.op = (1 : Int))))] (b55_6 g c d l) 18 (by kernel_rfl) ?_ ?_
      ·exact trivial
      refine at_ret ?_
      exact fin_in (.inr rfl) [[0], [1], [2], [3]] (.b (decide (g.op = (1 : Int)))) (b55_6 g c d l) (by kernel_rfl) (by rw [hold_0 ho.1 hc9_1 hc23_1 hc29_1 hc38_1 hc45_1]) (by kernel_rfl)
noncomputable abbrev b26_1 (l : (List ByteArray)) : Id × AO := ([3], .row [.tv (.sli 1 (l.map encStr))] false)
noncomputable abbrev b26_2 : Id × AO := ([15], .row [.fn (.func 55) [.ptr [2] 0, .ptr [1] 0, .ptr [3] 0, .ptr [15] 0]] false)
noncomputable abbrev b26_3 (c : (List Int)) : Id × AO := ([2], .row [.tv (.sli 1 (c.map encI))] false)
noncomputable abbrev b26_4 (l : (List ByteArray)) (c : (List Int)) (d : Dm) (f : Fm) : Hp := [(b26_1 l), (b26_3 c), ([1], .row ((celD d).map .tv) false), ([0], .row ((celF f).map .tv) false)]
noncomputable abbrev b26_5 (l : (List ByteArray)) (c : (List Int)) (d : Dm) (f : Fm) : Hp := [b26_2, (b26_1 l), (b26_3 c), ([1], .row ((celD d).map .tv) false), ([0], .row ((celF f).map .tv) false)]
theorem c26 (f : Fm) (d : Dm) (c : (List Int)) (l : (List ByteArray))  : PureCall Tryd.prog 26 [agF f, agD d, .tv (.sli 1 (c.map encI)), .tv (.sli 1 (l.map encStr))] (.b (holdP f d c l)) := by
 refine walk0 (fn := Tryd.f26) [.tmp 8] Tryd.func26 rfl (by kernel_rfl) rfl (by kernel_rfl) (by kernel_rfl) ?_
 change AT _ _ _ ⟨[(0, agF f), (1, agD d), (2, .tv (.sli 1 (c.map encI))), (3, .tv (.sli 1 (l.map encStr)))], [], [], 0⟩
 refine at_B [4, 5, 6, 7] [] [] [(1000000, .any), (4, .ptr [0] 0), (5, .ptr [1] 0), (6, .ptr [2] 0), (7, .ptr [3] 0)] (b26_4 l c d f) 5 (by kernel_rfl) ?_ ?_
 ·exact trivial
 refine at_seq ?_
 refine at_B [4, 5, 6, 7, 19] [.std, .std, .ret (.i (checkA f d)), .std, .std, .std, .std, .ret (.b (fitsD d c))] [PureCall Tryd.prog 44 [agF f, agD d, .tv (.fn 54)] (.i (checkA f d)), ((!decide ((checkA f d) = (0 : Int))) = false) → PureCall Tryd.prog 30 [agD d, .tv (.sli 1 (c.map encI))] (.b (fitsD d c))] [(1000000, .any), (4, .ptr [0] 0), (5, .ptr [1] 0), (6, .ptr [2] 0), (7, .ptr [3] 0), (19, .b ((!decide ((checkA f d) = (0 : Int))) || (!(fitsD d c))))] (b26_4 l c d f) 15 (by kernel_rfl) ?_ ?_
 ·exact ⟨(c44 f d), fun hg0 => (c30 d c), trivial⟩
 refine at_cond (b := ((!decide ((checkA f d) = (0 : Int))) || (!(fitsD d c)))) rfl rfl (fun hc19 => ?_) (fun hc19 => ?_)
 ·have q19 := hc19
  (try simp only [brs] at q19)
  refine at_B [8] [] [] [(1000000, .any), (8, .b false)] (b26_4 l c d f) 16 (by kernel_rfl) ?_ ?_
  ·exact trivial
  refine at_ret ?_
  refine fin0 (.inr rfl) (.b false) (b26_4 l c d f) (.b false) (H2 := (b26_4 l c d f)) (by kernel_rfl) (by kernel_rfl) ?_
  refine Le.of_eq ?_
  rw [holdP_f hc19]
 ·have q19 := hc19
  (try simp only [brs] at q19)
  refine at_skip ?_
  change AT _ _ _ _
  refine at_B [4, 5, 6, 7, 9] [] [] [(1000000, .any), (4, .ptr [0] 0), (5, .ptr [1] 0), (6, .ptr [2] 0), (7, .ptr [3] 0), (9, .ptr [15] 0)] [([15], .row [.tv .nilf] false), (b26_1 l), (b26_3 c), ([1], .row ((celD d).map .tv) false), ([0], .row ((celF f).map .tv) false)] 16 (by kernel_rfl) ?_ ?_
  ·exact trivial
  refine at_B [4, 9] [] [] [(1000000, .any), (4, .ptr [0] 0), (9, .ptr [15] 0)] (b26_5 l c d f) 18 (by kernel_rfl) ?_ ?_
  ·exact trivial
  refine at_B [8] [.std, .std, .retS (.b (valF d c l f))] [StabCall Tryd.prog 55 [agF f, .ptr [2] 0, .ptr [1] 0, .ptr [3] 0, .ptr [15] 0] (b26_5 l c d f) (.b (valF d c l f))] [(1000000, .any), (8, .b (valF d c l f))] (b26_5 l c d f) 22 (by kernel_rfl) ?_ ?_
  ·exact ⟨StabCall.mono (H := [(b26_3 c), ([1], .row ((celD d).map .tv) false), (b26_1 l), b26_2]) (stab_mv (args := [agF f, .ptr [0] 0, .ptr [1] 0, .ptr [2] 0, .ptr [3] 0]) (H := [([0], .row [.tv (.sli 1 (c.map encI))] false), ([1], .row ((celD d).map .tv) false), ([2], .row [.tv (.sli 1 (l.map encStr))] false), ([3], .row [.fn (.func 55) [.ptr [0] 0, .ptr [1] 0, .ptr [2] 0, .ptr [3] 0]] false)]) (H2 := [(b26_3 c), ([1], .row ((celD d).map .tv) false), (b26_1 l), b26_2]) (q := [50]) [([2], [0]), ([1], [1]), ([3], [2]), ([15], [3])] [([0], [2]), ([1], [1]), ([2], [3]), ([3], [15])] [] [] ((c55 f d c l (holdP_hyp hc19).1 (holdP_hyp hc19).2) _ _ (fun _ _ h => h)) (by kernel_rfl) (by kernel_rfl) (trivial) (by kernel_rfl) (by kernel_rfl) (trivial)) (sub_cons (by kernel_rfl) (sub_cons (by kernel_rfl) (sub_cons (by kernel_rfl) (sub_cons (by kernel_rfl) sub_nil)))), trivial⟩
  refine at_ret ?_
  refine fin0 (.inr rfl) (.b (valF d c l f)) (b26_5 l c d f) (.b (valF d c l f)) (H2 := (b26_5 l c d f)) (by kernel_rfl) (by kernel_rfl) ?_
  refine Le.of_eq ?_
  rw [holdP_t hc19]
end Go.Proofs.YtphmhelkojdlaaaDoor
namespace Go.Proofs.YtphmhelkojdlaaaDoor
open Go.RowKit
set_option linter.unusedSimpArgs false
set_option linter.unusedVariables false
end Go.Proofs.YtphmhelkojdlaaaDoor
namespace Go.Proofs.YtphmhelkojdlaaaDoor
open Go.RowKit
set_option maxRecDepth 10000
set_option linter.unusedSimpArgs false
set_option linter.unusedVariables false
end Go.Proofs.YtphmhelkojdlaaaDoor
namespace Go.Proofs.YtphmhelkojdlaaaDoor
open Go.RowKit
set_option linter.unusedSimpArgs false
set_option linter.unusedVariables false
end Go.Proofs.YtphmhelkojdlaaaDoor
namespace Go.Proofs.YtphmhelkojdlaaaDoor
open Go.RowKit
set_option maxRecDepth 10000
set_option linter.unusedSimpArgs false
set_option linter.unusedVariables false
end Go.Proofs.YtphmhelkojdlaaaDoor
namespace Go.Proofs.YtphmhelkojdlaaaDoor
open Go.RowKit
set_option linter.unusedSimpArgs false
set_option linter.unusedVariables false
theorem cntFs_ok {l : List Fm} (h : ∀ k ∈ l, ∀ m : Int, 0 ≤ m → m ≤ 1000000 → 1 ≤ cntF k m ∧ cntF k m ≤ m + 1 ∧ (cntF k m ≤ m → cntF k m = (nF k : Int))) :
  ∀ (m c : Int), 0 ≤ m → m ≤ 1000000 → 1 ≤ c → c ≤ m + 1 → c ≤ cntFs l m c ∧ cntFs l m c ≤ m + 1 ∧ (cntFs l m c ≤ m → cntFs l m c = c + (nFs l : Int)) := by
 induction l with
 | nil => intro m c h1 h2 h3 h4; simp only [cntFs, nFs]; refine ⟨by omega, by omega, fun _ => by omega⟩
 | cons k r ih =>
  intro m c h1 h2 h3 h4
  simp only [cntFs, nFs]
  split
  ·rename_i hc
   have hw : wr (m - c) = m - c := wr_fit _ ⟨by omega, by omega⟩
   rw [hw]
   have hk := h k (by simp) (m - c) (by omega) (by omega)
   have hw2 : wr (c + cntF k (m - c)) = c + cntF k (m - c) := wr_fit _ ⟨by omega, by omega⟩
   rw [hw2]
   obtain ⟨a1, a2, a3⟩ := ih (fun x hx => h x (by simp [hx])) m (c + cntF k (m - c)) h1 h2 (by omega) (by omega)
   refine ⟨by omega, a2, fun hr => ?_⟩
   rw [a3 hr, hk.2.2 (by omega)]
   omega
  ·exact ⟨by omega, by omega, fun hr => absurd hr (by assumption)⟩
theorem cntF_ok : ∀ (f : Fm) (m : Int), 0 ≤ m → m ≤ 1000000 → 1 ≤ cntF f m ∧ cntF f m ≤ m + 1 ∧ (cntF f m ≤ m → cntF f m = (nF f : Int)) := by
 refine Fm.ind (fun f ih => ?_)
 intro m h1 h2
 rw [cntF_eq, nF_eq]
 obtain ⟨a, b, c⟩ := cntFs_ok ih m 1 h1 h2 (by omega) (by omega)
 exact ⟨a, b, fun h => by rw [c h]; omega⟩
theorem nF_le {f : Fm} {m : Int} (h : cntF f m ≤ m) (h1 : 0 ≤ m) (h2 : m ≤ 1000000) : nF f ≤ 1000000 ∧ (nF f : Int) ≤ m := by
 have := (cntF_ok f m h1 h2).2.2 h
 omega
end Go.Proofs.YtphmhelkojdlaaaDoor
namespace Go.Proofs.YtphmhelkojdlaaaDoor
open Go.RowKit
set_option maxRecDepth 10000
set_option linter.unusedSimpArgs false
set_option linter.unusedVariables false
end Go.Proofs.YtphmhelkojdlaaaDoor
namespace Go.Proofs.YtphmhelkojdlaaaDoor
open Go.RowKit
set_option linter.unusedSimpArgs false
set_option linter.unusedVariables false
end Go.Proofs.YtphmhelkojdlaaaDoor
