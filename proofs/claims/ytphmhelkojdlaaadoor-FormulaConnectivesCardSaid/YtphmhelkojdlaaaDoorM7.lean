/- Part M7 of the proof. -/
import Derived.Test.YtphmhelkojdlaaaDoorRows
import Derived.LaidMore
import Derived.Stop.Joined
import Derived.Test.YtphmhelkojdlaaaDoorCards
import Derived.Test.YtphmhelkojdlaaaDoorTie
import Derived.Test.YtphmhelkojdlaaaDoorM6
namespace Go.Proofs.YtphmhelkojdlaaaDoor
open Go.RowKit
set_option linter.unusedSimpArgs false
set_option linter.unusedVariables false
theorem mx_or (a b : Int) : mx a b = a ∧ b ≤ a ∨ mx a b = b ∧ a ≤ b := by
  unfold mx
  split
  · exact .inr ⟨rfl, by omega⟩
  · exact .inl ⟨rfl, by omega⟩
theorem szFs_ok {l : List Fm} (h : ∀ k ∈ l, nF k ≤ 1000000 → (szF k).1 = (nF k : Int) ∧ 1 ≤ (szF k).2 ∧ (szF k).2 ≤ (nF k : Int)) :
    ∀ (a d : Int), 1 ≤ a → a + (nFs l : Int) ≤ 1000001 → 0 ≤ d → d ≤ 1000000 → (szFs l a d).1 = a + (nFs l : Int) ∧ d ≤ (szFs l a d).2 ∧ (szFs l a d).2 ≤ d + (nFs l : Int) := by
  induction l with
  | nil => intro a d h1 h2 h3 h4; simp only [szFs, nFs]; omega
  | cons k r ih =>
    intro a d h1 h2 h3 h4
    simp only [nFs] at h2
    have hp := nF_pos k
    obtain ⟨a1, a2, a3⟩ := h k (by simp) (by omega)
    simp only [szFs, nFs]
    have hw : wr (a + (szF k).1) = a + (szF k).1 := wr_fit _ ⟨by omega, by omega⟩
    rw [hw, a1]
    have hm := mx_or d (szF k).2
    obtain ⟨b1, b2, b3⟩ := ih (fun x hx => h x (by simp [hx])) (a + (nF k : Int)) (mx d (szF k).2) (by omega) (by omega) (by omega) (by omega)
    refine ⟨by omega, by omega, by omega⟩
theorem szF_ok : ∀ f : Fm, nF f ≤ 1000000 → (szF f).1 = (nF f : Int) ∧ 1 ≤ (szF f).2 ∧ (szF f).2 ≤ (nF f : Int) := by
  refine Fm.ind (fun f ih => ?_)
  intro hn
  rw [nF_eq] at hn ⊢
  rw [szF_eq]
  obtain ⟨a, b, c⟩ := szFs_ok ih 1 0 (by omega) (by omega) (by omega) (by omega)
  simp only
  rw [wr_fit _ ⟨by omega, by omega⟩]
  omega
/-- A formula with at most k nodes and e levels, of which every node is well-formed. -/
structure Gd (d : Dm) (k e : Int) (f : Fm) : Prop where
  n : (nF f : Int) ≤ k
  e : (szF f).2 ≤ e
  z : errF (oneR d [] true) f = 0
theorem one_weak {d : Dm} {l : List ByteArray} {f : Fm} (h : oneR d l false f = 0) : oneR d [] true f = 0 := by
  obtain ⟨h1, h2, h3⟩ := one_zero h
  refine one_0 (by rw [h1]; rfl) h2 ?_
  unfold nameE at h3 ⊢
  rw [Bool.or_eq_false_iff] at h3
  rw [h3.1]; simp
theorem errFs_all {e : Fm → Int} {l : List Fm} (h : ∀ k ∈ l, errF e k = 0) : errFs e l = 0 := by
  induction l with
  | nil => rfl
  | cons k r ih => simp only [errFs, h k (by simp), ih (fun x hx => h x (by simp [hx]))]; rfl
theorem errF_mk {e : Fm → Int} {f : Fm} (h : e f = 0) (hk : ∀ k ∈ f.ks, errF e k = 0) : errF e f = 0 := by
  rw [errF_eq, h, errFs_all hk]; rfl
theorem err_weak {d : Dm} {l : List ByteArray} : ∀ f : Fm, errF (oneR d l false) f = 0 → errF (oneR d [] true) f = 0 := by
  refine Fm.ind (fun f ih => ?_)
  intro h
  obtain ⟨h1, h2⟩ := errF_zero h
  exact errF_mk (one_weak h1) (fun k hk => ih k hk (h2 k hk))
theorem large_iff {f : Fm} (hn : nF f ≤ 1000000) : largeR f = false ↔ (nF f : Int) ≤ 200 ∧ (szF f).2 ≤ 20 := by
  have := szF_ok f hn
  unfold largeR
  rw [Bool.or_eq_false_iff, decide_eq_false_iff_not, decide_eq_false_iff_not, this.1]
  omega
theorem Gd.check {d : Dm} {k e : Int} {f : Fm} (h : Gd d k e f) (hk : k ≤ 200) (he : e ≤ 20) : checkA f d = 0 := by
  have h1 := h.n
  have h2 := h.e
  have hl : largeR f = false := (large_iff (by omega)).2 ⟨by omega, by omega⟩
  unfold checkA
  rw [hl, h.z]; rfl
theorem Gd.hold {d : Dm} {k e : Int} {f : Fm} (h : Gd d k e f) (hk : k ≤ 200) (he : e ≤ 20) {c : List Int} (hc : fitsD d c = true) (l : List ByteArray) : holdP f d c l = valF d c l f := by
  unfold holdP
  rw [h.check hk he, hc]; rfl
theorem good_Gd {f : Fm} {d : Dm} {c : List Int} (h : goodC f d c = true) : Gd d 60 16 f ∧ fitsD d c = true ∧ validD d = true ∧ checkR f d (namesF f []) = 0 := by
  unfold goodC at h
  cases hv : validD d with
  | false => rw [hv] at h; simp at h
  | true =>
    cases hf : fitsD d c with
    | false => rw [hf] at h; simp at h
    | true =>
      by_cases hc : cntF f 300 ≤ 300
      · rw [hv, hf, decide_eq_true hc] at h
        simp only [Bool.not_true, Bool.or_false, cond_false, Bool.and_eq_true, decide_eq_true_eq] at h
        obtain ⟨⟨h1, h2⟩, h3⟩ := h
        have hn := nF_le hc (by decide) (by decide)
        have hs := szF_ok f hn.1
        refine ⟨⟨by omega, h2, ?_⟩, rfl, rfl, h3⟩
        unfold checkR at h3
        cases hl : largeR f with
        | true => rw [hl] at h3; exact absurd (show (2 : Int) = 0 from h3) (by decide)
        | false => rw [hl] at h3; exact err_weak f h3
      · rw [decide_eq_false hc] at h; simp at h
/-! ### Connectives -/
theorem one_op {d : Dm} {f : Fm} (h : formedR f = true) (h3 : ¬ f.op = 3) (h4 : ¬ f.op = 4) : oneR d [] true f = 0 := by
  refine one_0 (by rw [h]; rfl) ?_ ?_
  · unfold rangeE; rw [decide_eq_false h3]; rfl
  · unfold nameE; rw [decide_eq_false h3, decide_eq_false h4]; rfl
theorem Gd.one {d : Dm} {k e : Int} {f : Fm} (h : Gd d k e f) (hk : k ≤ 1000) (he : e ≤ 1000) : Gd d (k + 1) (e + 1) (.mk 5 ⟨#[]⟩ 0 0 [f]) := by
  have hn := h.n
  have hs := szF_ok f (by omega)
  have he' := h.e
  refine ⟨?_, ?_, errF_mk (one_op (by rfl) (by show ¬ (5 : Int) = 3; decide) (by show ¬ (5 : Int) = 4; decide)) (fun x hx => ?_)⟩
  · simp only [nF, nFs]; omega
  · rw [szF_eq]
    simp only [Fm.ks, szFs]
    have := mx_or 0 (szF f).2
    rw [wr_fit _ ⟨by omega, by omega⟩]; omega
  · simp only [Fm.ks, List.mem_singleton] at hx; subst hx; exact h.z
theorem Gd.two {d : Dm} {k e k' e' o : Int} {f g : Fm} (h : Gd d k e f) (h' : Gd d k' e' g) (ho : o = 6 ∨ o = 7) (hk : k ≤ 1000) (he : e ≤ 1000) (hk' : k' ≤ 1000) (he' : e' ≤ e) : Gd d (k + k' + 1) (e + 1) (.mk o ⟨#[]⟩ 0 0 [f, g]) := by
  have hn := h.n
  have hn' := h'.n
  have hs := szF_ok f (by omega)
  have hs' := szF_ok g (by omega)
  have h1 := h.e
  have h1' := h'.e
  refine ⟨?_, ?_, errF_mk (one_op (by rcases ho with rfl | rfl <;> rfl) (by rcases ho with rfl | rfl <;> (simp only [Fm.op]; decide)) (by rcases ho with rfl | rfl <;> (simp only [Fm.op]; decide))) (fun x hx => ?_)⟩
  · simp only [nF, nFs]; omega
  · rw [szF_eq]
    simp only [Fm.ks, szFs]
    have m1 := mx_or 0 (szF f).2
    have m2 := mx_or (mx 0 (szF f).2) (szF g).2
    rw [wr_fit _ ⟨by omega, by omega⟩]; omega
  · simp only [Fm.ks, List.mem_cons, List.not_mem_nil, or_false] at hx
    rcases hx with rfl | rfl
    · exact h.z
    · exact h'.z
theorem val_not (d : Dm) (c : List Int) (l : List ByteArray) (f : Fm) : valF d c l (.mk 5 ⟨#[]⟩ 0 0 [f]) = !valF d c l f := by
  rw [valF_eq]; rfl
theorem val_and (d : Dm) (c : List Int) (l : List ByteArray) (f g : Fm) : valF d c l (.mk 6 ⟨#[]⟩ 0 0 [f, g]) = (valF d c l f && valF d c l g) := by
  rw [valF_eq]
  simp [Fm.op, Fm.ks, valAll]
theorem val_or (d : Dm) (c : List Int) (l : List ByteArray) (f g : Fm) : valF d c l (.mk 7 ⟨#[]⟩ 0 0 [f, g]) = (valF d c l f || valF d c l g) := by
  rw [valF_eq]
  simp [Fm.op, Fm.ks, valAny]
end Go.Proofs.YtphmhelkojdlaaaDoor
namespace Go.Proofs.YtphmhelkojdlaaaDoor
open Go.RowKit
set_option maxRecDepth 10000
set_option linter.unusedSimpArgs false
set_option linter.unusedVariables false
abbrev b4_l1 (f : Fm) (g : Fm) : Fm := (Fm.mk 7 ⟨#[]⟩ 0 0 ([(Fm.mk 5 ⟨#[]⟩ 0 0 ([f])), (Fm.mk 5 ⟨#[]⟩ 0 0 ([g]))]))
abbrev b4_l2 (f : Fm) (g : Fm) : Fm := (Fm.mk 5 ⟨#[]⟩ 0 0 ([(Fm.mk 6 ⟨#[]⟩ 0 0 ([f, g]))]))
def law4V (f : Fm) (g : Fm) (d : Dm) (c : (List Int)) (l : (List ByteArray)) : Bool := bif (((!(fewD d c l)) || (!(goodC f d c))) || (!(goodC g d c))) then (true) else (((((((holdP (Fm.mk 5 ⟨#[]⟩ 0 0 ([f])) d c l) == (!(holdP f d c l))) && ((holdP (Fm.mk 6 ⟨#[]⟩ 0 0 ([f, g])) d c l) == ((holdP f d c l) && (holdP g d c l)))) && ((holdP (Fm.mk 7 ⟨#[]⟩ 0 0 ([g, f])) d c l) == ((holdP f d c l) || (holdP g d c l)))) && (((holdP (Fm.mk 6 ⟨#[]⟩ 0 0 ([g, f])) d c l) == ((holdP f d c l) && (holdP g d c l))) && ((holdP (Fm.mk 7 ⟨#[]⟩ 0 0 ([f, g])) d c l) == ((holdP f d c l) || (holdP g d c l))))) && ((holdP (b4_l2 f g) d c l) == (holdP (b4_l1 f g) d c l))))
noncomputable abbrev b4_1 (f : Fm) : Id × AO := ([40], .row [.tv (.int .i64 5), .tv (.str ⟨#[]⟩), .tv (.int .i64 0), .tv (.int .i64 0), .tv (.sli 5 (([f]).map encF))] false)
noncomputable abbrev b4_2 (d : Dm) (g : Fm) (f : Fm) : Hp := [([2], .row ((celD d).map .tv) false), ([1], .row ((celF g).map .tv) false), ([0], .row ((celF f).map .tv) false)]
noncomputable abbrev b4_3 (f : Fm) (d : Dm) (g : Fm) : Hp := [(b4_1 f), ([2], .row ((celD d).map .tv) false), ([1], .row ((celF g).map .tv) false), ([0], .row ((celF f).map .tv) false)]
theorem l4 (f : Fm) (g : Fm) (d : Dm) (c : (List Int)) (l : (List ByteArray))  : PureCall Tryd.prog 4 [agF f, agF g, agD d, .tv (.sli 1 (c.map encI)), .tv (.sli 1 (l.map encStr))] (.tv (.bool (law4V f g d c l))) := by
  refine walk0 (fn := Tryd.f4) [.tmp 10] Tryd.func4 rfl (by kernel_rfl) rfl (by kernel_rfl) (by kernel_rfl) ?_
  change AT _ _ _ ⟨[(0, agF f), (1, agF g), (2, agD d), (3, .tv (.sli 1 (c.map encI))), (4, .tv (.sli 1 (l.map encStr)))], [], [], 0⟩
  refine at_B [3, 4, 5, 6, 7] [] [] [(1000000, .any), (3, .tv (.sli 1 (c.map encI))), (4, .tv (.sli 1 (l.map encStr))), (5, .ptr [0] 0), (6, .ptr [1] 0), (7, .ptr [2] 0)] (b4_2 d g f) 4 (by kernel_rfl) ?_ ?_
  · exact trivial
  refine at_B [3, 4, 5, 6, 7, 11] [.ret (.tv (.bool true))] [PureCall Tryd.prog 11 [] (.tv (.bool true))] [(1000000, .any), (3, .tv (.sli 1 (c.map encI))), (4, .tv (.sli 1 (l.map encStr))), (5, .ptr [0] 0), (6, .ptr [1] 0), (7, .ptr [2] 0), (11, .tv (.bool true))] (b4_2 d g f) 6 (by kernel_rfl) ?_ ?_
  · exact ⟨(c11), trivial⟩
  refine at_seq ?_
  refine at_B [3, 4, 5, 6, 7, 11, 36] [.std, .std, .std, .ret (.tv (.bool (fewD d c l))), .std, .std, .std, .std, .std, .ret (.tv (.bool (goodC f d c))), .std, .std, .std, .std, .std, .std, .ret (.tv (.bool (goodC g d c)))] [PureCall Tryd.prog 13 [agD d, .tv (.sli 1 (c.map encI)), .tv (.sli 1 (l.map encStr))] (.tv (.bool (fewD d c l))), ((!(fewD d c l)) = false) → PureCall Tryd.prog 28 [agF f, agD d, .tv (.sli 1 (c.map encI))] (.tv (.bool (goodC f d c))), (((!(fewD d c l)) || (!(goodC f d c))) = false) → PureCall Tryd.prog 28 [agF g, agD d, .tv (.sli 1 (c.map encI))] (.tv (.bool (goodC g d c)))] [(1000000, .any), (3, .tv (.sli 1 (c.map encI))), (4, .tv (.sli 1 (l.map encStr))), (5, .ptr [0] 0), (6, .ptr [1] 0), (7, .ptr [2] 0), (11, .tv (.bool true)), (36, .tv (.bool (((!(fewD d c l)) || (!(goodC f d c))) || (!(goodC g d c)))))] (b4_2 d g f) 25 (by kernel_rfl) ?_ ?_
  · exact ⟨(c13 d c l), fun hg0 => (c28 f d c), fun hg0 => (c28 g d c), trivial⟩
  refine at_cond (b := (((!(fewD d c l)) || (!(goodC f d c))) || (!(goodC g d c)))) rfl rfl (fun hc36 => ?_) (fun hc36 => ?_)
  · have q36 := hc36
    (try simp only [brs] at q36)
    refine at_B [10] [] [] [(1000000, .any), (10, .tv (.bool true))] (b4_2 d g f) 27 (by kernel_rfl) ?_ ?_
    · exact trivial
    refine at_ret ?_
    refine fin0 (.inr rfl) (.tv (.bool true)) (b4_2 d g f) (.tv (.bool true)) (H2 := (b4_2 d g f)) (by kernel_rfl) (by kernel_rfl) ?_
    refine Le.of_eq ?_
    first | rfl | (simp only [law4V, hc36, cond_true, cond_false]; done) | (simp only [law4V, hc36, cond_true, cond_false]; rfl) | (rw [law4V, hc36]; rfl)
  · have q36 := hc36
    (try simp only [brs] at q36)
    refine at_skip ?_
    change AT _ _ _ _
    refine at_B [3, 4, 5, 6, 7, 11, 12] [.std, .std, .std, .std, .ret (.tv (.bool (holdP f d c l)))] [PureCall Tryd.prog 26 [agF f, agD d, .tv (.sli 1 (c.map encI)), .tv (.sli 1 (l.map encStr))] (.tv (.bool (holdP f d c l)))] [(1000000, .any), (3, .tv (.sli 1 (c.map encI))), (4, .tv (.sli 1 (l.map encStr))), (5, .ptr [0] 0), (6, .ptr [1] 0), (7, .ptr [2] 0), (11, .tv (.bool true)), (12, .tv (.bool (holdP f d c l)))] (b4_2 d g f) 31 (by kernel_rfl) ?_ ?_
    · exact ⟨(c26 f d c l), trivial⟩
    refine at_B [3, 4, 5, 6, 7, 11, 12, 13] [.std, .std, .std, .std, .ret (.tv (.bool (holdP g d c l)))] [PureCall Tryd.prog 26 [agF g, agD d, .tv (.sli 1 (c.map encI)), .tv (.sli 1 (l.map encStr))] (.tv (.bool (holdP g d c l)))] [(1000000, .any), (3, .tv (.sli 1 (c.map encI))), (4, .tv (.sli 1 (l.map encStr))), (5, .ptr [0] 0), (6, .ptr [1] 0), (7, .ptr [2] 0), (11, .tv (.bool true)), (12, .tv (.bool (holdP f d c l))), (13, .tv (.bool (holdP g d c l)))] (b4_2 d g f) 37 (by kernel_rfl) ?_ ?_
    · exact ⟨(c26 g d c l), trivial⟩
    refine at_B [3, 4, 5, 6, 7, 11, 12, 13, 14] [.std, .eq (.tv (.sli 5 (([f] : List _).map encF))), .ret (.agg [.tv (.int .i64 5), .tv (.str ⟨#[]⟩), .tv (.int .i64 0), .tv (.int .i64 0), .tv (.sli 5 (([f]).map encF))])] [(.tv (.sli 5 [(celF f)]) : AV) = .tv (.sli 5 (([f] : List _).map encF)), PureCall Tryd.prog 29 [.tv (.int .i64 5), .tv (.sli 5 (([f] : List _).map encF))] (.agg [.tv (.int .i64 5), .tv (.str ⟨#[]⟩), .tv (.int .i64 0), .tv (.int .i64 0), .tv (.sli 5 (([f]).map encF))])] [(1000000, .any), (3, .tv (.sli 1 (c.map encI))), (4, .tv (.sli 1 (l.map encStr))), (5, .ptr [0] 0), (6, .ptr [1] 0), (7, .ptr [2] 0), (11, .tv (.bool true)), (12, .tv (.bool (holdP f d c l))), (13, .tv (.bool (holdP g d c l))), (14, .ptr [40] 0)] (b4_3 f d g) 42 (by kernel_rfl) ?_ ?_
    · exact ⟨by first | ((simp only [List.map, encF_eq]) <;> rfl) | (simp only [List.map, encF_eq, celF, Fm.op, Fm.nm, Fm.cm, Fm.n, Fm.ks]; done) | (simp only [List.map, encF_eq, celF, Fm.op, Fm.nm, Fm.cm, Fm.n, Fm.ks]; rfl), (c29 5 [f]), trivial⟩
    refine at_D [some [[40]], some [[2]], none, none, none, none, none, none, none, some [[0]], some [[1]], none, none, some [[2]], none, none, none, none, none, none, none, none, none, none, some [[1]], some [[0]], none, none, some [[2]]] [0, 0, 0, 0, 15, 0, 32, 127, 255, 511, 511, 2047, 4095, 511, 511, 511, 65535, 511, 262143, 524287, 1048575, 2097151, 4194303, 8388607, 16777215, 16777215, 67108863, 134217727, 16777215, 16777215, 16777215, 2147483647, 16777215, 8589934591, 17179869183, 34359738367, 68719476735, 137438953471, 274877906943] [3, 4, 5, 6, 7, 11, 12, 13, 14, 15] [.std, .std, .std, .std, .ret (.tv (.bool (holdP (Fm.mk 5 ⟨#[]⟩ 0 0 ([f])) d c l))), .std, .std, .std, .std, .std, .std, .eq (.tv (.sli 5 (([f, g] : List _).map encF))), .ret (.agg [.tv (.int .i64 6), .tv (.str ⟨#[]⟩), .tv (.int .i64 0), .tv (.int .i64 0), .tv (.sli 5 (([f, g]).map encF))]), .std, .std, .std, .ret (.tv (.bool (holdP (Fm.mk 6 ⟨#[]⟩ 0 0 ([f, g])) d c l))), .std, .std, .std, .std, .std, .std, .std, .std, .std, .eq (.tv (.sli 5 (([g, f] : List _).map encF))), .ret (.agg [.tv (.int .i64 7), .tv (.str ⟨#[]⟩), .tv (.int .i64 0), .tv (.int .i64 0), .tv (.sli 5 (([g, f]).map encF))]), .std, .std, .std, .ret (.tv (.bool (holdP (Fm.mk 7 ⟨#[]⟩ 0 0 ([g, f])) d c l)))] [PureCall Tryd.prog 26 [.agg [.tv (.int .i64 5), .tv (.str ⟨#[]⟩), .tv (.int .i64 0), .tv (.int .i64 0), .tv (.sli 5 (([f]).map encF))], agD d, .tv (.sli 1 (c.map encI)), .tv (.sli 1 (l.map encStr))] (.tv (.bool (holdP (Fm.mk 5 ⟨#[]⟩ 0 0 ([f])) d c l))), (((holdP (Fm.mk 5 ⟨#[]⟩ 0 0 ([f])) d c l) == (!(holdP f d c l))) = true) → (.tv (.sli 5 [(celF f), (celF g)]) : AV) = .tv (.sli 5 (([f, g] : List _).map encF)), (((holdP (Fm.mk 5 ⟨#[]⟩ 0 0 ([f])) d c l) == (!(holdP f d c l))) = true) → PureCall Tryd.prog 29 [.tv (.int .i64 6), .tv (.sli 5 (([f, g] : List _).map encF))] (.agg [.tv (.int .i64 6), .tv (.str ⟨#[]⟩), .tv (.int .i64 0), .tv (.int .i64 0), .tv (.sli 5 (([f, g]).map encF))]), (((holdP (Fm.mk 5 ⟨#[]⟩ 0 0 ([f])) d c l) == (!(holdP f d c l))) = true) → PureCall Tryd.prog 26 [.agg [.tv (.int .i64 6), .tv (.str ⟨#[]⟩), .tv (.int .i64 0), .tv (.int .i64 0), .tv (.sli 5 (([f, g]).map encF))], agD d, .tv (.sli 1 (c.map encI)), .tv (.sli 1 (l.map encStr))] (.tv (.bool (holdP (Fm.mk 6 ⟨#[]⟩ 0 0 ([f, g])) d c l))), ((((holdP (Fm.mk 5 ⟨#[]⟩ 0 0 ([f])) d c l) == (!(holdP f d c l))) && ((holdP (Fm.mk 6 ⟨#[]⟩ 0 0 ([f, g])) d c l) == ((holdP f d c l) && (holdP g d c l)))) = true) → (.tv (.sli 5 [(celF g), (celF f)]) : AV) = .tv (.sli 5 (([g, f] : List _).map encF)), ((((holdP (Fm.mk 5 ⟨#[]⟩ 0 0 ([f])) d c l) == (!(holdP f d c l))) && ((holdP (Fm.mk 6 ⟨#[]⟩ 0 0 ([f, g])) d c l) == ((holdP f d c l) && (holdP g d c l)))) = true) → PureCall Tryd.prog 29 [.tv (.int .i64 7), .tv (.sli 5 (([g, f] : List _).map encF))] (.agg [.tv (.int .i64 7), .tv (.str ⟨#[]⟩), .tv (.int .i64 0), .tv (.int .i64 0), .tv (.sli 5 (([g, f]).map encF))]), ((((holdP (Fm.mk 5 ⟨#[]⟩ 0 0 ([f])) d c l) == (!(holdP f d c l))) && ((holdP (Fm.mk 6 ⟨#[]⟩ 0 0 ([f, g])) d c l) == ((holdP f d c l) && (holdP g d c l)))) = true) → PureCall Tryd.prog 26 [.agg [.tv (.int .i64 7), .tv (.str ⟨#[]⟩), .tv (.int .i64 0), .tv (.int .i64 0), .tv (.sli 5 (([g, f]).map encF))], agD d, .tv (.sli 1 (c.map encI)), .tv (.sli 1 (l.map encStr))] (.tv (.bool (holdP (Fm.mk 7 ⟨#[]⟩ 0 0 ([g, f])) d c l)))] [(1000000, .any), (3, .tv (.sli 1 (c.map encI))), (4, .tv (.sli 1 (l.map encStr))), (5, .ptr [0] 0), (6, .ptr [1] 0), (7, .ptr [2] 0), (11, .tv (.bool true)), (12, .tv (.bool (holdP f d c l))), (13, .tv (.bool (holdP g d c l))), (14, .ptr [40] 0), (15, .tv (.bool ((((holdP (Fm.mk 5 ⟨#[]⟩ 0 0 ([f])) d c l) == (!(holdP f d c l))) && ((holdP (Fm.mk 6 ⟨#[]⟩ 0 0 ([f, g])) d c l) == ((holdP f d c l) && (holdP g d c l)))) && ((holdP (Fm.mk 7 ⟨#[]⟩ 0 0 ([g, f])) d c l) == ((holdP f d c l) || (holdP g d c l))))))] (b4_3 f d g) 81 (by kernel_rfl) ?_ ?_
    · exact ⟨(c26 (Fm.mk 5 ⟨#[]⟩ 0 0 ([f])) d c l), fun hg0 => by first | ((simp only [List.map, encF_eq]) <;> rfl) | (simp only [List.map, encF_eq, celF, Fm.op, Fm.nm, Fm.cm, Fm.n, Fm.ks]; done) | (simp only [List.map, encF_eq, celF, Fm.op, Fm.nm, Fm.cm, Fm.n, Fm.ks]; rfl), fun hg0 => (c29 6 [f, g]), fun hg0 => (c26 (Fm.mk 6 ⟨#[]⟩ 0 0 ([f, g])) d c l), fun hg0 => by first | ((simp only [List.map, encF_eq]) <;> rfl) | (simp only [List.map, encF_eq, celF, Fm.op, Fm.nm, Fm.cm, Fm.n, Fm.ks]; done) | (simp only [List.map, encF_eq, celF, Fm.op, Fm.nm, Fm.cm, Fm.n, Fm.ks]; rfl), fun hg0 => (c29 7 [g, f]), fun hg0 => (c26 (Fm.mk 7 ⟨#[]⟩ 0 0 ([g, f])) d c l), trivial⟩
    refine at_D [some [[1]], some [[0]], none, none, some [[2]], none, none, none, none, none, none, none, none, none, some [[0]], some [[1]], none, none, some [[2]]] [0, 0, 3, 7, 0, 0, 0, 127, 0, 511, 1023, 2047, 4095, 8191, 16383, 16383, 65535, 131071, 16383, 16383, 16383, 2097151, 16383, 8388607, 16777215, 33554431, 67108863, 134217727, 268435455] [3, 4, 5, 6, 7, 11, 14, 15, 16] [.std, .std, .eq (.tv (.sli 5 (([g, f] : List _).map encF))), .ret (.agg [.tv (.int .i64 6), .tv (.str ⟨#[]⟩), .tv (.int .i64 0), .tv (.int .i64 0), .tv (.sli 5 (([g, f]).map encF))]), .std, .std, .std, .ret (.tv (.bool (holdP (Fm.mk 6 ⟨#[]⟩ 0 0 ([g, f])) d c l))), .std, .std, .std, .std, .std, .std, .std, .std, .eq (.tv (.sli 5 (([f, g] : List _).map encF))), .ret (.agg [.tv (.int .i64 7), .tv (.str ⟨#[]⟩), .tv (.int .i64 0), .tv (.int .i64 0), .tv (.sli 5 (([f, g]).map encF))]), .std, .std, .std, .ret (.tv (.bool (holdP (Fm.mk 7 ⟨#[]⟩ 0 0 ([f, g])) d c l)))] [(.tv (.sli 5 [(celF g), (celF f)]) : AV) = .tv (.sli 5 (([g, f] : List _).map encF)), PureCall Tryd.prog 29 [.tv (.int .i64 6), .tv (.sli 5 (([g, f] : List _).map encF))] (.agg [.tv (.int .i64 6), .tv (.str ⟨#[]⟩), .tv (.int .i64 0), .tv (.int .i64 0), .tv (.sli 5 (([g, f]).map encF))]), PureCall Tryd.prog 26 [.agg [.tv (.int .i64 6), .tv (.str ⟨#[]⟩), .tv (.int .i64 0), .tv (.int .i64 0), .tv (.sli 5 (([g, f]).map encF))], agD d, .tv (.sli 1 (c.map encI)), .tv (.sli 1 (l.map encStr))] (.tv (.bool (holdP (Fm.mk 6 ⟨#[]⟩ 0 0 ([g, f])) d c l))), (((holdP (Fm.mk 6 ⟨#[]⟩ 0 0 ([g, f])) d c l) == ((holdP f d c l) && (holdP g d c l))) = true) → (.tv (.sli 5 [(celF f), (celF g)]) : AV) = .tv (.sli 5 (([f, g] : List _).map encF)), (((holdP (Fm.mk 6 ⟨#[]⟩ 0 0 ([g, f])) d c l) == ((holdP f d c l) && (holdP g d c l))) = true) → PureCall Tryd.prog 29 [.tv (.int .i64 7), .tv (.sli 5 (([f, g] : List _).map encF))] (.agg [.tv (.int .i64 7), .tv (.str ⟨#[]⟩), .tv (.int .i64 0), .tv (.int .i64 0), .tv (.sli 5 (([f, g]).map encF))]), (((holdP (Fm.mk 6 ⟨#[]⟩ 0 0 ([g, f])) d c l) == ((holdP f d c l) && (holdP g d c l))) = true) → PureCall Tryd.prog 26 [.agg [.tv (.int .i64 7), .tv (.str ⟨#[]⟩), .tv (.int .i64 0), .tv (.int .i64 0), .tv (.sli 5 (([f, g]).map encF))], agD d, .tv (.sli 1 (c.map encI)), .tv (.sli 1 (l.map encStr))] (.tv (.bool (holdP (Fm.mk 7 ⟨#[]⟩ 0 0 ([f, g])) d c l)))] [(1000000, .any), (3, .tv (.sli 1 (c.map encI))), (4, .tv (.sli 1 (l.map encStr))), (5, .ptr [0] 0), (6, .ptr [1] 0), (7, .ptr [2] 0), (11, .tv (.bool true)), (14, .ptr [40] 0), (15, .tv (.bool ((((holdP (Fm.mk 5 ⟨#[]⟩ 0 0 ([f])) d c l) == (!(holdP f d c l))) && ((holdP (Fm.mk 6 ⟨#[]⟩ 0 0 ([f, g])) d c l) == ((holdP f d c l) && (holdP g d c l)))) && ((holdP (Fm.mk 7 ⟨#[]⟩ 0 0 ([g, f])) d c l) == ((holdP f d c l) || (holdP g d c l)))))), (16, .tv (.bool (((holdP (Fm.mk 6 ⟨#[]⟩ 0 0 ([g, f])) d c l) == ((holdP f d c l) && (holdP g d c l))) && ((holdP (Fm.mk 7 ⟨#[]⟩ 0 0 ([f, g])) d c l) == ((holdP f d c l) || (holdP g d c l))))))] (b4_3 f d g) 110 (by kernel_rfl) ?_ ?_
    · exact ⟨by first | ((simp only [List.map, encF_eq]) <;> rfl) | (simp only [List.map, encF_eq, celF, Fm.op, Fm.nm, Fm.cm, Fm.n, Fm.ks]; done) | (simp only [List.map, encF_eq, celF, Fm.op, Fm.nm, Fm.cm, Fm.n, Fm.ks]; rfl), (c29 6 [g, f]), (c26 (Fm.mk 6 ⟨#[]⟩ 0 0 ([g, f])) d c l), fun hg0 => by first | ((simp only [List.map, encF_eq]) <;> rfl) | (simp only [List.map, encF_eq, celF, Fm.op, Fm.nm, Fm.cm, Fm.n, Fm.ks]; done) | (simp only [List.map, encF_eq, celF, Fm.op, Fm.nm, Fm.cm, Fm.n, Fm.ks]; rfl), fun hg0 => (c29 7 [f, g]), fun hg0 => (c26 (Fm.mk 7 ⟨#[]⟩ 0 0 ([f, g])) d c l), trivial⟩
    refine at_D [none, none, none, none, none, none, none, none, some [[0]], some [[1]], none, none, none, none, some [[2]], none, none, none, some [[40]], some [[1]], none, none, none, none, some [[2]]] [0, 1, 3, 7, 15, 31, 63, 127, 255, 255, 1023, 2047, 4095, 8191, 255, 255, 255, 131071, 255, 255, 524543, 1835007, 4194303, 8388607, 255, 255, 255, 134217727, 268435455, 536870911, 1073741823] [10] [.std, .std, .std, .std, .std, .std, .std, .std, .std, .std, .eq (.tv (.sli 5 (([f, g] : List _).map encF))), .ret (.agg [.tv (.int .i64 6), .tv (.str ⟨#[]⟩), .tv (.int .i64 0), .tv (.int .i64 0), .tv (.sli 5 (([f, g]).map encF))]), .eq (.tv (.sli 5 (([(Fm.mk 6 ⟨#[]⟩ 0 0 ([f, g]))] : List _).map encF))), .ret (.agg [.tv (.int .i64 5), .tv (.str ⟨#[]⟩), .tv (.int .i64 0), .tv (.int .i64 0), .tv (.sli 5 (([(Fm.mk 6 ⟨#[]⟩ 0 0 ([f, g]))]).map encF))]), .std, .std, .std, .ret (.tv (.bool (holdP (b4_l2 f g) d c l))), .std, .std, .eq (.tv (.sli 5 (([g] : List _).map encF))), .ret (.agg [.tv (.int .i64 5), .tv (.str ⟨#[]⟩), .tv (.int .i64 0), .tv (.int .i64 0), .tv (.sli 5 (([g]).map encF))]), .eq (.tv (.sli 5 (([(Fm.mk 5 ⟨#[]⟩ 0 0 ([f])), (Fm.mk 5 ⟨#[]⟩ 0 0 ([g]))] : List _).map encF))), .ret (.agg [.tv (.int .i64 7), .tv (.str ⟨#[]⟩), .tv (.int .i64 0), .tv (.int .i64 0), .tv (.sli 5 (([(Fm.mk 5 ⟨#[]⟩ 0 0 ([f])), (Fm.mk 5 ⟨#[]⟩ 0 0 ([g]))]).map encF))]), .std, .std, .std, .ret (.tv (.bool (holdP (b4_l1 f g) d c l)))] [((((((holdP (Fm.mk 5 ⟨#[]⟩ 0 0 ([f])) d c l) == (!(holdP f d c l))) && ((holdP (Fm.mk 6 ⟨#[]⟩ 0 0 ([f, g])) d c l) == ((holdP f d c l) && (holdP g d c l)))) && ((holdP (Fm.mk 7 ⟨#[]⟩ 0 0 ([g, f])) d c l) == ((holdP f d c l) || (holdP g d c l)))) && (((holdP (Fm.mk 6 ⟨#[]⟩ 0 0 ([g, f])) d c l) == ((holdP f d c l) && (holdP g d c l))) && ((holdP (Fm.mk 7 ⟨#[]⟩ 0 0 ([f, g])) d c l) == ((holdP f d c l) || (holdP g d c l))))) = true) → (.tv (.sli 5 [(celF f), (celF g)]) : AV) = .tv (.sli 5 (([f, g] : List _).map encF)), ((((((holdP (Fm.mk 5 ⟨#[]⟩ 0 0 ([f])) d c l) == (!(holdP f d c l))) && ((holdP (Fm.mk 6 ⟨#[]⟩ 0 0 ([f, g])) d c l) == ((holdP f d c l) && (holdP g d c l)))) && ((holdP (Fm.mk 7 ⟨#[]⟩ 0 0 ([g, f])) d c l) == ((holdP f d c l) || (holdP g d c l)))) && (((holdP (Fm.mk 6 ⟨#[]⟩ 0 0 ([g, f])) d c l) == ((holdP f d c l) && (holdP g d c l))) && ((holdP (Fm.mk 7 ⟨#[]⟩ 0 0 ([f, g])) d c l) == ((holdP f d c l) || (holdP g d c l))))) = true) → PureCall Tryd.prog 29 [.tv (.int .i64 6), .tv (.sli 5 (([f, g] : List _).map encF))] (.agg [.tv (.int .i64 6), .tv (.str ⟨#[]⟩), .tv (.int .i64 0), .tv (.int .i64 0), .tv (.sli 5 (([f, g]).map encF))]), ((((((holdP (Fm.mk 5 ⟨#[]⟩ 0 0 ([f])) d c l) == (!(holdP f d c l))) && ((holdP (Fm.mk 6 ⟨#[]⟩ 0 0 ([f, g])) d c l) == ((holdP f d c l) && (holdP g d c l)))) && ((holdP (Fm.mk 7 ⟨#[]⟩ 0 0 ([g, f])) d c l) == ((holdP f d c l) || (holdP g d c l)))) && (((holdP (Fm.mk 6 ⟨#[]⟩ 0 0 ([g, f])) d c l) == ((holdP f d c l) && (holdP g d c l))) && ((holdP (Fm.mk 7 ⟨#[]⟩ 0 0 ([f, g])) d c l) == ((holdP f d c l) || (holdP g d c l))))) = true) → (.tv (.sli 5 [[.int .i64 6, .str ⟨#[]⟩, .int .i64 0, .int .i64 0, .sli 5 (([f, g]).map encF)]]) : AV) = .tv (.sli 5 (([(Fm.mk 6 ⟨#[]⟩ 0 0 ([f, g]))] : List _).map encF)), ((((((holdP (Fm.mk 5 ⟨#[]⟩ 0 0 ([f])) d c l) == (!(holdP f d c l))) && ((holdP (Fm.mk 6 ⟨#[]⟩ 0 0 ([f, g])) d c l) == ((holdP f d c l) && (holdP g d c l)))) && ((holdP (Fm.mk 7 ⟨#[]⟩ 0 0 ([g, f])) d c l) == ((holdP f d c l) || (holdP g d c l)))) && (((holdP (Fm.mk 6 ⟨#[]⟩ 0 0 ([g, f])) d c l) == ((holdP f d c l) && (holdP g d c l))) && ((holdP (Fm.mk 7 ⟨#[]⟩ 0 0 ([f, g])) d c l) == ((holdP f d c l) || (holdP g d c l))))) = true) → PureCall Tryd.prog 29 [.tv (.int .i64 5), .tv (.sli 5 (([(Fm.mk 6 ⟨#[]⟩ 0 0 ([f, g]))] : List _).map encF))] (.agg [.tv (.int .i64 5), .tv (.str ⟨#[]⟩), .tv (.int .i64 0), .tv (.int .i64 0), .tv (.sli 5 (([(Fm.mk 6 ⟨#[]⟩ 0 0 ([f, g]))]).map encF))]), ((((((holdP (Fm.mk 5 ⟨#[]⟩ 0 0 ([f])) d c l) == (!(holdP f d c l))) && ((holdP (Fm.mk 6 ⟨#[]⟩ 0 0 ([f, g])) d c l) == ((holdP f d c l) && (holdP g d c l)))) && ((holdP (Fm.mk 7 ⟨#[]⟩ 0 0 ([g, f])) d c l) == ((holdP f d c l) || (holdP g d c l)))) && (((holdP (Fm.mk 6 ⟨#[]⟩ 0 0 ([g, f])) d c l) == ((holdP f d c l) && (holdP g d c l))) && ((holdP (Fm.mk 7 ⟨#[]⟩ 0 0 ([f, g])) d c l) == ((holdP f d c l) || (holdP g d c l))))) = true) → PureCall Tryd.prog 26 [.agg [.tv (.int .i64 5), .tv (.str ⟨#[]⟩), .tv (.int .i64 0), .tv (.int .i64 0), .tv (.sli 5 (([(Fm.mk 6 ⟨#[]⟩ 0 0 ([f, g]))]).map encF))], agD d, .tv (.sli 1 (c.map encI)), .tv (.sli 1 (l.map encStr))] (.tv (.bool (holdP (b4_l2 f g) d c l))), ((((((holdP (Fm.mk 5 ⟨#[]⟩ 0 0 ([f])) d c l) == (!(holdP f d c l))) && ((holdP (Fm.mk 6 ⟨#[]⟩ 0 0 ([f, g])) d c l) == ((holdP f d c l) && (holdP g d c l)))) && ((holdP (Fm.mk 7 ⟨#[]⟩ 0 0 ([g, f])) d c l) == ((holdP f d c l) || (holdP g d c l)))) && (((holdP (Fm.mk 6 ⟨#[]⟩ 0 0 ([g, f])) d c l) == ((holdP f d c l) && (holdP g d c l))) && ((holdP (Fm.mk 7 ⟨#[]⟩ 0 0 ([f, g])) d c l) == ((holdP f d c l) || (holdP g d c l))))) = true) → (.tv (.sli 5 [(celF g)]) : AV) = .tv (.sli 5 (([g] : List _).map encF)), ((((((holdP (Fm.mk 5 ⟨#[]⟩ 0 0 ([f])) d c l) == (!(holdP f d c l))) && ((holdP (Fm.mk 6 ⟨#[]⟩ 0 0 ([f, g])) d c l) == ((holdP f d c l) && (holdP g d c l)))) && ((holdP (Fm.mk 7 ⟨#[]⟩ 0 0 ([g, f])) d c l) == ((holdP f d c l) || (holdP g d c l)))) && (((holdP (Fm.mk 6 ⟨#[]⟩ 0 0 ([g, f])) d c l) == ((holdP f d c l) && (holdP g d c l))) && ((holdP (Fm.mk 7 ⟨#[]⟩ 0 0 ([f, g])) d c l) == ((holdP f d c l) || (holdP g d c l))))) = true) → PureCall Tryd.prog 29 [.tv (.int .i64 5), .tv (.sli 5 (([g] : List _).map encF))] (.agg [.tv (.int .i64 5), .tv (.str ⟨#[]⟩), .tv (.int .i64 0), .tv (.int .i64 0), .tv (.sli 5 (([g]).map encF))]), ((((((holdP (Fm.mk 5 ⟨#[]⟩ 0 0 ([f])) d c l) == (!(holdP f d c l))) && ((holdP (Fm.mk 6 ⟨#[]⟩ 0 0 ([f, g])) d c l) == ((holdP f d c l) && (holdP g d c l)))) && ((holdP (Fm.mk 7 ⟨#[]⟩ 0 0 ([g, f])) d c l) == ((holdP f d c l) || (holdP g d c l)))) && (((holdP (Fm.mk 6 ⟨#[]⟩ 0 0 ([g, f])) d c l) == ((holdP f d c l) && (holdP g d c l))) && ((holdP (Fm.mk 7 ⟨#[]⟩ 0 0 ([f, g])) d c l) == ((holdP f d c l) || (holdP g d c l))))) = true) → (.tv (.sli 5 [[.int .i64 5, .str ⟨#[]⟩, .int .i64 0, .int .i64 0, .sli 5 (([f]).map encF)], [.int .i64 5, .str ⟨#[]⟩, .int .i64 0, .int .i64 0, .sli 5 (([g]).map encF)]]) : AV) = .tv (.sli 5 (([(Fm.mk 5 ⟨#[]⟩ 0 0 ([f])), (Fm.mk 5 ⟨#[]⟩ 0 0 ([g]))] : List _).map encF)), ((((((holdP (Fm.mk 5 ⟨#[]⟩ 0 0 ([f])) d c l) == (!(holdP f d c l))) && ((holdP (Fm.mk 6 ⟨#[]⟩ 0 0 ([f, g])) d c l) == ((holdP f d c l) && (holdP g d c l)))) && ((holdP (Fm.mk 7 ⟨#[]⟩ 0 0 ([g, f])) d c l) == ((holdP f d c l) || (holdP g d c l)))) && (((holdP (Fm.mk 6 ⟨#[]⟩ 0 0 ([g, f])) d c l) == ((holdP f d c l) && (holdP g d c l))) && ((holdP (Fm.mk 7 ⟨#[]⟩ 0 0 ([f, g])) d c l) == ((holdP f d c l) || (holdP g d c l))))) = true) → PureCall Tryd.prog 29 [.tv (.int .i64 7), .tv (.sli 5 (([(Fm.mk 5 ⟨#[]⟩ 0 0 ([f])), (Fm.mk 5 ⟨#[]⟩ 0 0 ([g]))] : List _).map encF))] (.agg [.tv (.int .i64 7), .tv (.str ⟨#[]⟩), .tv (.int .i64 0), .tv (.int .i64 0), .tv (.sli 5 (([(Fm.mk 5 ⟨#[]⟩ 0 0 ([f])), (Fm.mk 5 ⟨#[]⟩ 0 0 ([g]))]).map encF))]), ((((((holdP (Fm.mk 5 ⟨#[]⟩ 0 0 ([f])) d c l) == (!(holdP f d c l))) && ((holdP (Fm.mk 6 ⟨#[]⟩ 0 0 ([f, g])) d c l) == ((holdP f d c l) && (holdP g d c l)))) && ((holdP (Fm.mk 7 ⟨#[]⟩ 0 0 ([g, f])) d c l) == ((holdP f d c l) || (holdP g d c l)))) && (((holdP (Fm.mk 6 ⟨#[]⟩ 0 0 ([g, f])) d c l) == ((holdP f d c l) && (holdP g d c l))) && ((holdP (Fm.mk 7 ⟨#[]⟩ 0 0 ([f, g])) d c l) == ((holdP f d c l) || (holdP g d c l))))) = true) → PureCall Tryd.prog 26 [.agg [.tv (.int .i64 7), .tv (.str ⟨#[]⟩), .tv (.int .i64 0), .tv (.int .i64 0), .tv (.sli 5 (([(Fm.mk 5 ⟨#[]⟩ 0 0 ([f])), (Fm.mk 5 ⟨#[]⟩ 0 0 ([g]))]).map encF))], agD d, .tv (.sli 1 (c.map encI)), .tv (.sli 1 (l.map encStr))] (.tv (.bool (holdP (b4_l1 f g) d c l)))] [(1000000, .any), (10, .tv (.bool ((((((holdP (Fm.mk 5 ⟨#[]⟩ 0 0 ([f])) d c l) == (!(holdP f d c l))) && ((holdP (Fm.mk 6 ⟨#[]⟩ 0 0 ([f, g])) d c l) == ((holdP f d c l) && (holdP g d c l)))) && ((holdP (Fm.mk 7 ⟨#[]⟩ 0 0 ([g, f])) d c l) == ((holdP f d c l) || (holdP g d c l)))) && (((holdP (Fm.mk 6 ⟨#[]⟩ 0 0 ([g, f])) d c l) == ((holdP f d c l) && (holdP g d c l))) && ((holdP (Fm.mk 7 ⟨#[]⟩ 0 0 ([f, g])) d c l) == ((holdP f d c l) || (holdP g d c l))))) && ((holdP (b4_l2 f g) d c l) == (holdP (b4_l1 f g) d c l)))))] (b4_3 f d g) 141 (by kernel_rfl) ?_ ?_
    · exact ⟨fun hg0 => by first | ((simp only [List.map, encF_eq]) <;> rfl) | (simp only [List.map, encF_eq, celF, Fm.op, Fm.nm, Fm.cm, Fm.n, Fm.ks]; done) | (simp only [List.map, encF_eq, celF, Fm.op, Fm.nm, Fm.cm, Fm.n, Fm.ks]; rfl), fun hg0 => (c29 6 [f, g]), fun hg0 => by first | ((simp only [List.map, encF_eq]) <;> rfl) | (simp only [List.map, encF_eq, celF, Fm.op, Fm.nm, Fm.cm, Fm.n, Fm.ks]; done) | (simp only [List.map, encF_eq, celF, Fm.op, Fm.nm, Fm.cm, Fm.n, Fm.ks]; rfl), fun hg0 => (c29 5 [(Fm.mk 6 ⟨#[]⟩ 0 0 ([f, g]))]), fun hg0 => (c26 (b4_l2 f g) d c l), fun hg0 => by first | ((simp only [List.map, encF_eq]) <;> rfl) | (simp only [List.map, encF_eq, celF, Fm.op, Fm.nm, Fm.cm, Fm.n, Fm.ks]; done) | (simp only [List.map, encF_eq, celF, Fm.op, Fm.nm, Fm.cm, Fm.n, Fm.ks]; rfl), fun hg0 => (c29 5 [g]), fun hg0 => by first | ((simp only [List.map, encF_eq]) <;> rfl) | (simp only [List.map, encF_eq, celF, Fm.op, Fm.nm, Fm.cm, Fm.n, Fm.ks]; done) | (simp only [List.map, encF_eq, celF, Fm.op, Fm.nm, Fm.cm, Fm.n, Fm.ks]; rfl), fun hg0 => (c29 7 [(Fm.mk 5 ⟨#[]⟩ 0 0 ([f])), (Fm.mk 5 ⟨#[]⟩ 0 0 ([g]))]), fun hg0 => (c26 (b4_l1 f g) d c l), trivial⟩
    refine at_ret ?_
    refine fin0 (.inr rfl) (.tv (.bool ((((((holdP (Fm.mk 5 ⟨#[]⟩ 0 0 ([f])) d c l) == (!(holdP f d c l))) && ((holdP (Fm.mk 6 ⟨#[]⟩ 0 0 ([f, g])) d c l) == ((holdP f d c l) && (holdP g d c l)))) && ((holdP (Fm.mk 7 ⟨#[]⟩ 0 0 ([g, f])) d c l) == ((holdP f d c l) || (holdP g d c l)))) && (((holdP (Fm.mk 6 ⟨#[]⟩ 0 0 ([g, f])) d c l) == ((holdP f d c l) && (holdP g d c l))) && ((holdP (Fm.mk 7 ⟨#[]⟩ 0 0 ([f, g])) d c l) == ((holdP f d c l) || (holdP g d c l))))) && ((holdP (b4_l2 f g) d c l) == (holdP (b4_l1 f g) d c l))))) (b4_3 f d g) (.tv (.bool ((((((holdP (Fm.mk 5 ⟨#[]⟩ 0 0 ([f])) d c l) == (!(holdP f d c l))) && ((holdP (Fm.mk 6 ⟨#[]⟩ 0 0 ([f, g])) d c l) == ((holdP f d c l) && (holdP g d c l)))) && ((holdP (Fm.mk 7 ⟨#[]⟩ 0 0 ([g, f])) d c l) == ((holdP f d c l) || (holdP g d c l)))) && (((holdP (Fm.mk 6 ⟨#[]⟩ 0 0 ([g, f])) d c l) == ((holdP f d c l) && (holdP g d c l))) && ((holdP (Fm.mk 7 ⟨#[]⟩ 0 0 ([f, g])) d c l) == ((holdP f d c l) || (holdP g d c l))))) && ((holdP (b4_l2 f g) d c l) == (holdP (b4_l1 f g) d c l))))) (H2 := (b4_3 f d g)) (by kernel_rfl) (by kernel_rfl) ?_
    refine Le.of_eq ?_
    first | rfl | (simp only [law4V, hc36, cond_true, cond_false]; done) | (simp only [law4V, hc36, cond_true, cond_false]; rfl) | (rw [law4V, hc36]; rfl)
end Go.Proofs.YtphmhelkojdlaaaDoor
namespace Go.Proofs.YtphmhelkojdlaaaDoor
open Go.RowKit
set_option linter.unusedSimpArgs false
set_option linter.unusedVariables false
theorem law4_true (f g : Fm) (d : Dm) (c : List Int) (l : List ByteArray) : law4V f g d c l = true := by
  unfold law4V
  cases h0 : fewD d c l with
  | false => rfl
  | true =>
    cases h1 : goodC f d c with
    | false => rfl
    | true =>
      cases h2 : goodC g d c with
      | false => rfl
      | true =>
        obtain ⟨gf, hc, _, _⟩ := good_Gd h1
        obtain ⟨gg, _, _, _⟩ := good_Gd h2
        have a := gf.hold (by decide) (by decide) hc l
        have b := gg.hold (by decide) (by decide) hc l
        have n1 := (gf.one (by decide) (by decide)).hold (by decide) (by decide) hc l
        have a1 := (gf.two gg (.inl rfl) (by decide) (by decide) (by decide) (by decide)).hold (by decide) (by decide) hc l
        have o1 := (gg.two gf (.inr rfl) (by decide) (by decide) (by decide) (by decide)).hold (by decide) (by decide) hc l
        have a2 := (gg.two gf (.inl rfl) (by decide) (by decide) (by decide) (by decide)).hold (by decide) (by decide) hc l
        have o2 := (gf.two gg (.inr rfl) (by decide) (by decide) (by decide) (by decide)).hold (by decide) (by decide) hc l
        have x1 := ((gf.two gg (.inl rfl) (by decide) (by decide) (by decide) (by decide)).one (by decide) (by decide)).hold (by decide) (by decide) hc l
        have x2 := ((gf.one (by decide) (by decide)).two (gg.one (by decide) (by decide)) (.inr rfl) (by decide) (by decide) (by decide) (by decide)).hold (by decide) (by decide) hc l
        simp only [Bool.not_true, Bool.or_false, cond_false, b4_l1, b4_l2, a, b, n1, a1, o1, a2, o2, x1, x2, val_not, val_and, val_or]
        cases valF d c l f <;> cases valF d c l g <;> rfl
end Go.Proofs.YtphmhelkojdlaaaDoor
namespace Go.Proofs.YtphmhelkojdlaaaDoor
open Go.RowKit Go.ChangeShapes Go.WideShapes Go.ChangeAt
set_option linter.unusedSimpArgs false
set_option linter.unusedVariables false
section
variable {H : Type} {enc : TypeId × Value → H} {W : World}
theorem rd_3 (fuel : Nat) : Rd enc Tryd.prog W fuel 3 (fun n : Int => [.int .i64 n]) := rd_int Tryd.underlying3
theorem rd_9 (fuel : Nat) : Rd enc Tryd.prog W fuel 9 (fun s : ByteArray => [.str s]) := rd_str Tryd.underlying9
theorem rde_24 : ∀ (fuel : Nat), Rd enc Tryd.prog W fuel 24 encF := by
  intro fuel
  induction fuel using Nat.strongRecOn with
  | _ fuel ih =>
  cases fuel with
  | zero => exact rd_zero
  | succ fuel =>
    intro cs x h
    obtain ⟨hl, hf⟩ := rd_fields Tryd.underlying24 h
    have rk : Rd enc Tryd.prog W fuel 22 (fun l : List Fm => [.sli 5 (l.map encF)]) := by
      cases fuel with
      | zero => exact rd_zero
      | succ fuel => exact rd_slice Tryd.underlying22 (by kernel_rfl) encF_len (ih fuel (by omega))
    obtain ⟨a0, r0⟩ := rd_field hf 0 3 0 1 rfl (by kernel_rfl) (rd_3 fuel)
    obtain ⟨a1, r1⟩ := rd_field hf 1 9 1 1 rfl (by kernel_rfl) (rd_9 fuel)
    obtain ⟨a2, r2⟩ := rd_field hf 2 3 2 1 rfl (by kernel_rfl) (rd_3 fuel)
    obtain ⟨a3, r3⟩ := rd_field hf 3 3 3 1 rfl (by kernel_rfl) (rd_3 fuel)
    obtain ⟨a4, r4⟩ := rd_field hf 4 22 4 1 rfl (by kernel_rfl) (rk)
    refine ⟨(Fm.mk a0 a1 a2 a3 a4), ?_⟩
    rw [encF_eq]
    exact CR.app (off := 0) (n := 1) r0 rfl (CR.app (off := 1) (n := 1) r1 rfl (CR.app (off := 2) (n := 1) r2 rfl (CR.app (off := 3) (n := 1) r3 rfl (CR.app (off := 4) (n := 1) r4 rfl (CR.fin (n := 5) (hl.trans (by kernel_rfl)))))))
theorem rd_24 (fuel : Nat) : Rd enc Tryd.prog W fuel 24 celF := rd_ext (rde_24 fuel) (fun a => ⟨a, (encF_eq a).symm⟩)
theorem rd_52 (fuel : Nat) : Rd enc Tryd.prog W fuel 52 celC := by
  cases fuel with
  | zero => exact rd_zero
  | succ fuel =>
    intro cs x h
    obtain ⟨hl, hf⟩ := rd_fields Tryd.underlying52 h
    obtain ⟨a0, r0⟩ := rd_field hf 0 9 0 1 rfl (by kernel_rfl) (rd_9 fuel)
    obtain ⟨a1, r1⟩ := rd_field hf 1 3 1 1 rfl (by kernel_rfl) (rd_3 fuel)
    obtain ⟨a2, r2⟩ := rd_field hf 2 3 2 1 rfl (by kernel_rfl) (rd_3 fuel)
    obtain ⟨a3, r3⟩ := rd_field hf 3 3 3 1 rfl (by kernel_rfl) (rd_3 fuel)
    refine ⟨(Fc.mk a0 a1 a2 a3), ?_⟩
    exact CR.app (off := 0) (n := 1) r0 rfl (CR.app (off := 1) (n := 1) r1 rfl (CR.app (off := 2) (n := 1) r2 rfl (CR.app (off := 3) (n := 1) r3 rfl (CR.fin (n := 4) (hl.trans (by kernel_rfl))))))
theorem rd_25 (fuel : Nat) : Rd enc Tryd.prog W fuel 25 (fun l : List Fc => [.sli 4 (l.map celC)]) := by
  cases fuel with
  | zero => exact rd_zero
  | succ fuel => exact rd_slice Tryd.underlying25 (by kernel_rfl) (fun _ => rfl) (rd_52 fuel)
theorem rd_27 (fuel : Nat) : Rd enc Tryd.prog W fuel 27 celD := by
  cases fuel with
  | zero => exact rd_zero
  | succ fuel =>
    intro cs x h
    obtain ⟨hl, hf⟩ := rd_fields Tryd.underlying27 h
    obtain ⟨a0, r0⟩ := rd_field hf 0 25 0 1 rfl (by kernel_rfl) (rd_25 fuel)
    refine ⟨(Dm.mk a0), ?_⟩
    exact CR.app (off := 0) (n := 1) r0 rfl (CR.fin (n := 1) (hl.trans (by kernel_rfl)))
theorem rd_29 (fuel : Nat) : Rd enc Tryd.prog W fuel 29 (fun l : List Int => [.sli 1 (l.map encI)]) := by
  cases fuel with
  | zero => exact rd_zero
  | succ fuel => exact rd_slice Tryd.underlying29 (by kernel_rfl) (fun _ => rfl) (rd_3 fuel)
theorem rd_30 (fuel : Nat) : Rd enc Tryd.prog W fuel 30 (fun l : List ByteArray => [.sli 1 (l.map encStr)]) := by
  cases fuel with
  | zero => exact rd_zero
  | succ fuel => exact rd_slice Tryd.underlying30 (by kernel_rfl) (fun _ => rfl) (rd_9 fuel)
end
theorem own : ownKnob Tryd.prog.godebug = none := by kernel_rfl
theorem laidOut : laidOutB Tryd.prog = true := by kernel_rfl
abbrev laidL {H : Type} : List (String × DataW H) := [("math/bits.deBruijn32tab", Rows.laid_math_bits_deBruijn32tab), ("math/bits.deBruijn64tab", Rows.laid_math_bits_deBruijn64tab), ("internal/strconv.uint64pow10", Rows.laid_internal_strconv_uint64pow10), ("strconv.ErrRange", Rows.laid_strconv_ErrRange), ("strconv.ErrSyntax", Rows.laid_strconv_ErrSyntax)]
/-- The door's own heap meets the condition. -/
theorem door_met (os : Os) (args : Array Value) : laidMetH Tryd.prog laidL ((World.doorLaid Tryd.prog 4000 os).forCall (fun _ _ => 0) ⟨#[], args, []⟩).memory :=
  laidMetH_of_parts3 (fuel := 8) (laidMet_of_run' 8 (by kernel_rfl) (by kernel_rfl)) (by kernel_rfl) (by kernel_rfl)
end Go.Proofs.YtphmhelkojdlaaaDoor
namespace Go.Proofs.YtphmhelkojdlaaaDoor
open Go.RowKit Go.ChangeShapes Go.WideShapes Go.ChangeAt
set_option linter.unusedSimpArgs false
set_option linter.unusedVariables false
theorem law4_pure (f g : Fm) (d : Dm) (c : List Int) (l : List ByteArray) : PureCall Tryd.prog 4 [.agg ((celF f).map .tv), .agg ((celF g).map .tv), .agg ((celD d).map .tv), .tv (.sli 1 (c.map encI)), .tv (.sli 1 (l.map encStr))] (.tv (.bool true)) := by
  have h := l4 f g d c l
  rw [law4_true] at h
  exact h
set_option maxRecDepth 100000 in
theorem lifted4 (os : Os) (started : os.Started) (H : Type) (enc : TypeId × Value → H) :
    ReturnsInHanded {} Tryd.checked os 4 .any (fun w args => (Rows.formulaConnectivesSpec.pre enc Tryd.prog Tryd.f4 [] false w args ∧ laidMetH Tryd.prog laidL w) ∧ sizedMet enc Tryd.prog Tryd.f4 (OpenSpec.ofChange Rows.formulaConnectivesSpec) false w args) (Rows.formulaConnectivesSpec.post enc Tryd.prog Tryd.f4 false true false false) := by
  refine returnsInHanded_of_change_and (C := Tryd.checked) (X := fun w _ => laidMetH Tryd.prog laidL w) (fun _ _ _ hh h => h.of_heap hh) own started (by kernel_rfl) Tryd.func4
    (ChangeSpec.witness_shaped (enc := enc) (C := Tryd.checked) (os := os) (X := fun w _ => laidMetH Tryd.prog laidL w) false (World.doorLaid Tryd.prog 4000 os) #[.agg #[.int .i64 0, .string ⟨#[]⟩, .int .i64 0, .int .i64 0, .slice none 0 0], .agg #[.int .i64 0, .string ⟨#[]⟩, .int .i64 0, .int .i64 0, .slice none 0 0], .agg #[.slice none 0 0], .slice none 0 0, .slice none 0 0] 8 rfl (World.shaped_of_RefB (by kernel_rfl) (by kernel_rfl)) (by kernel_rfl) (by kernel_rfl) (by kernel_rfl) (door_met os _)) ?_
  intro W base args ds gs before hval0 hW _ _ hL _
  have hval : ∀ (j : Nat) t v, Tryd.f4.params[j]? = some t → args[j]? = some v → Value.okWide Tryd.prog W .any base t v := hval0
  have hW' := hW
  obtain ⟨p, q, hA0, hV, rfl, _, _⟩ := hW
  have hA : DataW.TrodAll enc Tryd.prog W 0 (fun _ => true) true Tryd.f4.params.toList args.toList ds p := hA0
  rw [Tryd.params4] at hA hval
  obtain ⟨v0, vs0, d0, ds0, p0, q0, hargs, rfl, rfl, h0, g0⟩ := trodAll_cons hA
  obtain ⟨v1, vs1, d1, ds1, p1, q1, rfl, rfl, rfl, h1, g1⟩ := trodAll_cons g0
  obtain ⟨v2, vs2, d2, ds2, p2, q2, rfl, rfl, rfl, h2, g2⟩ := trodAll_cons g1
  obtain ⟨v3, vs3, d3, ds3, p3, q3, rfl, rfl, rfl, h3, g3⟩ := trodAll_cons g2
  obtain ⟨v4, vs4, d4, ds4, p4, q4, rfl, rfl, rfl, h4, g4⟩ := trodAll_cons g3
  obtain ⟨rfl, rfl, rfl⟩ := trodAll_nil g4
  obtain rfl : args = #[v0, v1, v2, v3, v4] := by cases args; simp_all
  obtain ⟨rfl, rfl⟩ := trodVars_none hV
  obtain ⟨us0, rfl, _⟩ := okWide_struct Tryd.underlying24 (hval 0 24 v0 rfl rfl)
  obtain ⟨x0, y0⟩ := arg_agg (ι := fun _ => none) rd_24 h0
  obtain ⟨us1, rfl, _⟩ := okWide_struct Tryd.underlying24 (hval 1 24 v1 rfl rfl)
  obtain ⟨x1, y1⟩ := arg_agg (ι := fun _ => none) rd_24 h1
  obtain ⟨us2, rfl, _⟩ := okWide_struct Tryd.underlying27 (hval 2 27 v2 rfl rfl)
  obtain ⟨x2, y2⟩ := arg_agg (ι := fun _ => none) rd_27 h2
  obtain ⟨z3, len3, cap3, rfl⟩ := okWide_slice Tryd.underlying29 (hval 3 29 v3 rfl rfl)
  obtain ⟨x3, y3⟩ := arg_one (ι := fun _ => none) rfl rd_29 h3
  obtain ⟨z4, len4, cap4, rfl⟩ := okWide_slice Tryd.underlying30 (hval 4 30 v4 rfl rfl)
  obtain ⟨x4, y4⟩ := arg_one (ι := fun _ => none) rfl rd_30 h4
  clear hA0 hval0
  simp only [List.append_nil] at hW'
  have hlt : ∀ x ∈ p0 ++ p1 ++ p2 ++ p3 ++ p4, x.block < W.heap.size := fun x hx => by simpa using hW'.lt x (by simpa using hx)
  refine (law_calls (P := Tryd.prog) (b := true) (law4_pure x0 x1 x2 x3 x4) (VRs.cons y0 (VRs.cons y1 (VRs.cons y2 (VRs.cons y3 (VRs.cons y4 (VRs.nil _ _))))))).mono fun e W' ⟨he, hb⟩ => ?_
  subst he
  refine ⟨_, rfl, _, _, _, [], _, [], hW', trodAll_mk1 (shut_bool Tryd.underlying4 true), (trodAll_cons_mk (Below.trod laidOut (by kernel_rfl) (of_decide_eq_true (by kernel_rfl)) h0 hb (fun x hx => hlt x (by simp [hx]))) (trodAll_cons_mk (Below.trod laidOut (by kernel_rfl) (of_decide_eq_true (by kernel_rfl)) h1 hb (fun x hx => hlt x (by simp [hx]))) (trodAll_cons_mk (Below.trod laidOut (by kernel_rfl) (of_decide_eq_true (by kernel_rfl)) h2 hb (fun x hx => hlt x (by simp [hx]))) (trodAll_cons_mk (Below.trod laidOut (by kernel_rfl) (of_decide_eq_true (by kernel_rfl)) h3 hb (fun x hx => hlt x (by simp [hx]))) (trodAll_cons_mk (Below.trod laidOut (by kernel_rfl) (of_decide_eq_true (by kernel_rfl)) h4 hb (fun x hx => hlt x (by simp [hx]))) trodAll_mk0))))), rfl, hb.frame _, fun h => by cases h⟩
theorem proved4 : Rows.FormulaConnectivesSaid :=
  OpenClaim.holds_of_wide 4 Tryd.f4 rfl rfl rfl rfl rfl rfl rfl ⟨rfl, rfl, rfl, rfl, rfl⟩ rfl rfl rfl rfl rfl (by kernel_rfl) Tryd.func4 (by kernel_rfl)
    (of_decide_eq_true (by kernel_rfl)) (by unfold Func.isWrapper; first | (rw [if_pos (by decide +kernel)]; kernel_rfl) | (rw [if_neg (by decide +kernel)]; exact ⟨rfl, rfl⟩))
    (fun os started H enc _ => lifted4 os started H enc)
theorem card4 : Rows.FormulaConnectivesCardSaid :=
  Claim7.holds_tied_plain_at .later [] _ true (true, "4a36700912013bb2f555b7a01611f8226529d3d0a19222fa014a5d6bd73064b1") true
    proved4 (fun _ h => by cases h) (by kernel_rfl) (fun _ h => by cases h) formulaConnectives_row_tie rfl ⟨rfl, rfl⟩ (by kernel_rfl) rfl
    (fun f fn hf hfn => by
      obtain rfl : f = 4 := Option.some.inj ((show Tryd.prog.funcNamed "pandect/pandectlaw07.FormulaConnectives" = some 4 by kernel_rfl).symm.trans hf) |>.symm
      obtain rfl : fn = Tryd.f4 := (Option.some.inj (Tryd.func4.symm.trans hfn)).symm
      exact ⟨by kernel_rfl, fun j t ht => by
        rw [Tryd.params4] at ht
        have hm : t ∈ [24, 24, 27, 29, 30] := by simpa using Array.mem_of_getElem? ht
        have hall : ([24, 24, 27, 29, 30].all fun u => !Tryd.prog.wantsStandIn u) = true := by kernel_rfl
        exact (show Tryd.prog.wantsStandIn t = false by simpa using List.all_eq_true.1 hall t hm)⟩)
    (by kernel_rfl)
#print axioms card4
end Go.Proofs.YtphmhelkojdlaaaDoor
