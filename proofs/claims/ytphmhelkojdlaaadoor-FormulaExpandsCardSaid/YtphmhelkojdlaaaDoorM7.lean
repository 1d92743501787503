/- Part M7 of the proof. -/
import Derived.Test.YtphmhelkojdlaaaDoorRows
import Derived.LaidMore
import Derived.Stop.Joined
import Derived.Test.YtphmhelkojdlaaaDoorCards
import Derived.Test.YtphmhelkojdlaaaDoorTie
import Derived.Test.YtphmhelkojdlaaaDoorM6
namespace Go.Proofs.YtphmhelkojdlaaaDoor
open Go.RowKit
set_option linter.unusedSimpArgs false
set_option linter.unusedVariables false
theorem mx_or (a b : Int) : mx a b = a ∧ b ≤ a ∨ mx a b = b ∧ a ≤ b := by
  unfold mx
  split
  · exact .inr ⟨rfl, by omega⟩
  · exact .inl ⟨rfl, by omega⟩
theorem szFs_ok {l : List Fm} (h : ∀ k ∈ l, nF k ≤ 1000000 → (szF k).1 = (nF k : Int) ∧ 1 ≤ (szF k).2 ∧ (szF k).2 ≤ (nF k : Int)) :
    ∀ (a d : Int), 1 ≤ a → a + (nFs l : Int) ≤ 1000001 → 0 ≤ d → d ≤ 1000000 → (szFs l a d).1 = a + (nFs l : Int) ∧ d ≤ (szFs l a d).2 ∧ (szFs l a d).2 ≤ d + (nFs l : Int) := by
  induction l with
  | nil => intro a d h1 h2 h3 h4; simp only [szFs, nFs]; omega
  | cons k r ih =>
    intro a d h1 h2 h3 h4
    simp only [nFs] at h2
    have hp := nF_pos k
    obtain ⟨a1, a2, a3⟩ := h k (by simp) (by omega)
    simp only [szFs, nFs]
    have hw : wr (a + (szF k).1) = a + (szF k).1 := wr_fit _ ⟨by omega, by omega⟩
    rw [hw, a1]
    have hm := mx_or d (szF k).2
    obtain ⟨b1, b2, b3⟩ := ih (fun x hx => h x (by simp [hx])) (a + (nF k : Int)) (mx d (szF k).2) (by omega) (by omega) (by omega) (by omega)
    refine ⟨by omega, by omega, by omega⟩
theorem szF_ok : ∀ f : Fm, nF f ≤ 1000000 → (szF f).1 = (nF f : Int) ∧ 1 ≤ (szF f).2 ∧ (szF f).2 ≤ (nF f : Int) := by
  refine Fm.ind (fun f ih => ?_)
  intro hn
  rw [nF_eq] at hn ⊢
  rw [szF_eq]
  obtain ⟨a, b, c⟩ := szFs_ok ih 1 0 (by omega) (by omega) (by omega) (by omega)
  simp only
  rw [wr_fit _ ⟨by omega, by omega⟩]
  omega
/-- A formula with at most k nodes and e levels, of which every node is well-formed. -/
structure Gd (d : Dm) (k e : Int) (f : Fm) : Prop where
  n : (nF f : Int) ≤ k
  e : (szF f).2 ≤ e
  z : errF (oneR d [] true) f = 0
theorem one_weak {d : Dm} {l : List ByteArray} {f : Fm} (h : oneR d l false f = 0) : oneR d [] true f = 0 := by
  obtain ⟨h1, h2, h3⟩ := one_zero h
  refine one_0 (by rw [h1]; rfl) h2 ?_
  unfold nameE at h3 ⊢
  rw [Bool.or_eq_false_iff] at h3
  rw [h3.1]; simp
theorem errFs_all {e : Fm → Int} {l : List Fm} (h : ∀ k ∈ l, errF e k = 0) : errFs e l = 0 := by
  induction l with
  | nil => rfl
  | cons k r ih => simp only [errFs, h k (by simp), ih (fun x hx => h x (by simp [hx]))]; rfl
theorem errF_mk {e : Fm → Int} {f : Fm} (h : e f = 0) (hk : ∀ k ∈ f.ks, errF e k = 0) : errF e f = 0 := by
  rw [errF_eq, h, errFs_all hk]; rfl
theorem err_weak {d : Dm} {l : List ByteArray} : ∀ f : Fm, errF (oneR d l false) f = 0 → errF (oneR d [] true) f = 0 := by
  refine Fm.ind (fun f ih => ?_)
  intro h
  obtain ⟨h1, h2⟩ := errF_zero h
  exact errF_mk (one_weak h1) (fun k hk => ih k hk (h2 k hk))
theorem large_iff {f : Fm} (hn : nF f ≤ 1000000) : largeR f = false ↔ (nF f : Int) ≤ 200 ∧ (szF f).2 ≤ 20 := by
  have := szF_ok f hn
  unfold largeR
  rw [Bool.or_eq_false_iff, decide_eq_false_iff_not, decide_eq_false_iff_not, this.1]
  omega
theorem Gd.check {d : Dm} {k e : Int} {f : Fm} (h : Gd d k e f) (hk : k ≤ 200) (he : e ≤ 20) : checkA f d = 0 := by
  have h1 := h.n
  have h2 := h.e
  have hl : largeR f = false := (large_iff (by omega)).2 ⟨by omega, by omega⟩
  unfold checkA
  rw [hl, h.z]; rfl
theorem Gd.hold {d : Dm} {k e : Int} {f : Fm} (h : Gd d k e f) (hk : k ≤ 200) (he : e ≤ 20) {c : List Int} (hc : fitsD d c = true) (l : List ByteArray) : holdP f d c l = valF d c l f := by
  unfold holdP
  rw [h.check hk he, hc]; rfl
theorem good_Gd {f : Fm} {d : Dm} {c : List Int} (h : goodC f d c = true) : Gd d 60 16 f ∧ fitsD d c = true ∧ validD d = true ∧ checkR f d (namesF f []) = 0 := by
  unfold goodC at h
  cases hv : validD d with
  | false => rw [hv] at h; simp at h
  | true =>
    cases hf : fitsD d c with
    | false => rw [hf] at h; simp at h
    | true =>
      by_cases hc : cntF f 300 ≤ 300
      · rw [hv, hf, decide_eq_true hc] at h
        simp only [Bool.not_true, Bool.or_false, cond_false, Bool.and_eq_true, decide_eq_true_eq] at h
        obtain ⟨⟨h1, h2⟩, h3⟩ := h
        have hn := nF_le hc (by decide) (by decide)
        have hs := szF_ok f hn.1
        refine ⟨⟨by omega, h2, ?_⟩, rfl, rfl, h3⟩
        unfold checkR at h3
        cases hl : largeR f with
        | true => rw [hl] at h3; exact absurd (show (2 : Int) = 0 from h3) (by decide)
        | false => rw [hl] at h3; exact err_weak f h3
      · rw [decide_eq_false hc] at h; simp at h
/-! ### Connectives -/
theorem one_op {d : Dm} {f : Fm} (h : formedR f = true) (h3 : ¬ f.op = 3) (h4 : ¬ f.op = 4) : oneR d [] true f = 0 := by
  refine one_0 (by rw [h]; rfl) ?_ ?_
  · unfold rangeE; rw [decide_eq_false h3]; rfl
  · unfold nameE; rw [decide_eq_false h3, decide_eq_false h4]; rfl
theorem Gd.one {d : Dm} {k e : Int} {f : Fm} (h : Gd d k e f) (hk : k ≤ 1000) (he : e ≤ 1000) : Gd d (k + 1) (e + 1) (.mk 5 ⟨#[]⟩ 0 0 [f]) := by
  have hn := h.n
  have hs := szF_ok f (by omega)
  have he' := h.e
  refine ⟨?_, ?_, errF_mk (one_op (by rfl) (by show ¬ (5 : Int) = 3; decide) (by show ¬ (5 : Int) = 4; decide)) (fun x hx => ?_)⟩
  · simp only [nF, nFs]; omega
  · rw [szF_eq]
    simp only [Fm.ks, szFs]
    have := mx_or 0 (szF f).2
    rw [wr_fit _ ⟨by omega, by omega⟩]; omega
  · simp only [Fm.ks, List.mem_singleton] at hx; subst hx; exact h.z
end Go.Proofs.YtphmhelkojdlaaaDoor
namespace Go.Proofs.YtphmhelkojdlaaaDoor
open Go.RowKit
set_option linter.unusedSimpArgs false
set_option linter.unusedVariables false
theorem TLs.of_eq {l l' : List TV} (h : l = l') : TLs l l' := h ▸ TLs.refl l
theorem check_zero {f : Fm} {d : Dm} {l : List ByteArray} (h : checkR f d l = 0) : largeR f = false ∧ errF (oneR d l false) f = 0 := by
  unfold checkR at h
  cases hl : largeR f with
  | true => rw [hl] at h; exact absurd (show (2 : Int) = 0 from h) (by decide)
  | false => rw [hl] at h; exact ⟨rfl, h⟩
end Go.Proofs.YtphmhelkojdlaaaDoor
namespace Go.Proofs.YtphmhelkojdlaaaDoor
open Go.RowKit
set_option linter.unusedSimpArgs false
set_option linter.unusedVariables false
theorem nFs_map {s : ByteArray} {g : Fm} {l : List Fm} (h : ∀ k ∈ l, nF (expF s g k) ≤ nF k * nF g) : nFs (l.map (expF s g)) ≤ nFs l * nF g := by
  induction l with
  | nil => exact Nat.zero_le _
  | cons k r ih =>
    simp only [List.map_cons, nFs]
    have h1 := h k (by simp)
    have h2 := ih (fun x hx => h x (by simp [hx]))
    rw [Nat.add_mul]
    omega
theorem nF_exp {s : ByteArray} {g : Fm} : ∀ f : Fm, nF (expF s g f) ≤ nF f * nF g := by
  refine Fm.ind (fun f ih => ?_)
  have hg := nF_pos g
  rw [expF_eq]
  cases hc : (decide (f.op = 4) && decide (f.nm = s)) with
  | true =>
    simp only [cond_true]
    exact Nat.le_mul_of_pos_left _ (nF_pos f)
  | false =>
    simp only [cond_false, nF]
    have h1 := nFs_map (s := s) (g := g) ih
    rw [nF_eq f, Nat.add_mul]
    omega
theorem nF_exp60 {s : ByteArray} {f g : Fm} {d : Dm} (hf : Gd d 60 16 f) (hg : Gd d 60 16 g) : nF (expF s g f) ≤ 1000000 := by
  have h1 := hf.n
  have h2 := hg.n
  have h3 := nF_exp (s := s) (g := g) f
  have h4 : nF f * nF g ≤ 60 * 60 := Nat.mul_le_mul (by omega) (by omega)
  omega
theorem valF_mk (d : Dm) (c : List Int) (l : List ByteArray) (o : Int) (nm : ByteArray) (cm n : Int) (ks : List Fm) : valF d c l (.mk o nm cm n ks) = bif decide (o = 1) then true else bif decide (o = 3) then cmpR (c.getD (idxF (fcN nm) d.fs 0).toNat 0) cm n else bif decide (o = 4) then List.any l (eqR nm) else bif decide (o = 5) then !valHd d c l ks else bif decide (o = 6) then valAll d c l ks else valAny d c l ks := by
  simp only [valF]
theorem val_exp {s : ByteArray} {g : Fm} {d : Dm} {c : List Int} {l b : List ByteArray} (hb : ∀ x, b.any (eqR x) = bif decide (x = s) then valF d c l g else l.any (eqR x)) : ∀ f : Fm, valF d c l (expF s g f) = valF d c b f := by
  refine Fm.ind (fun f ih => ?_)
  rw [expF_eq, valF_eq d c b f, hb]
  have hA : valAll d c l (f.ks.map (expF s g)) = valAll d c b f.ks := by
    generalize f.ks = ks at ih
    induction ks with
    | nil => rfl
    | cons k r ih2 => simp only [List.map_cons, valAll, ih k (by simp), ih2 (fun x hx => ih x (by simp [hx]))]
  have hO : valAny d c l (f.ks.map (expF s g)) = valAny d c b f.ks := by
    generalize f.ks = ks at ih
    induction ks with
    | nil => rfl
    | cons k r ih2 => simp only [List.map_cons, valAny, ih k (by simp), ih2 (fun x hx => ih x (by simp [hx]))]
  have hH : valHd d c l (f.ks.map (expF s g)) = valHd d c b f.ks := by
    generalize f.ks = ks at ih
    cases ks with
    | nil => rfl
    | cons k r => simp only [List.map_cons, valHd, ih k (by simp)]
  by_cases h4 : f.op = 4
  · by_cases hs : f.nm = s
    · rw [decide_eq_true h4, decide_eq_true hs, h4]; rfl
    · rw [decide_eq_true h4, decide_eq_false hs, Bool.and_false, cond_false, valF_mk, h4]
      rfl
  · rw [decide_eq_false h4, Bool.false_and, cond_false, valF_mk, decide_eq_false h4, hA, hO, hH]
    rfl
theorem few_len {d : Dm} {c : List Int} {l : List ByteArray} (h : fewD d c l = true) : l.length ≤ 40 := by
  unfold fewD at h
  cases ha : l.any longS with
  | true => rw [ha] at h; cases h
  | false =>
    rw [ha] at h
    simp only [cond_false, Bool.and_eq_true, decide_eq_true_eq] at h
    omega
/-- The list without a name. -/
def lessL (nm : ByteArray) (l : List ByteArray) : List ByteArray := l.filter (fun x => !decide (x = nm))
theorem less_step {nm : ByteArray} {l : List ByteArray} {i : Nat} {b : List ByteArray} (hi : i < l.length) (hb : b = lessL nm (l.take i)) (h : (!decide (l.getD i ⟨#[]⟩ = nm)) = true) : b ++ [l.getD i ⟨#[]⟩] = lessL nm (l.take (i + 1)) := by
  rw [take_snoc1 l i ⟨#[]⟩ hi, hb]
  unfold lessL
  rw [List.filter_append, List.filter_cons, h]; rfl
theorem less_skip {nm : ByteArray} {l : List ByteArray} {i : Nat} {b : List ByteArray} (hi : i < l.length) (hb : b = lessL nm (l.take i)) (h : (!decide (l.getD i ⟨#[]⟩ = nm)) = false) : b = lessL nm (l.take (i + 1)) := by
  rw [take_snoc1 l i ⟨#[]⟩ hi, hb]
  unfold lessL
  rw [List.filter_append, List.filter_cons, h]; simp
theorem less_len (nm : ByteArray) (l : List ByteArray) : (lessL nm l).length ≤ l.length := List.length_filter_le _ _
theorem less_any {nm : ByteArray} {l : List ByteArray} {v : Bool} (x : ByteArray) : (lessL nm l ++ (bif v then [nm] else [])).any (eqR x) = bif decide (x = nm) then v else l.any (eqR x) := by
  have h1 : (lessL nm l).any (eqR x) = bif decide (x = nm) then false else l.any (eqR x) := by
    unfold lessL
    induction l with
    | nil => cases decide (x = nm) <;> rfl
    | cons y r ih =>
      rw [List.filter_cons]
      by_cases e : y = nm
      · subst e
        rw [decide_eq_true rfl]
        simp only [Bool.not_true, Bool.false_eq_true, if_false, ih, List.any_cons]
        by_cases e2 : x = y
        · rw [decide_eq_true e2]; rfl
        · rw [decide_eq_false e2]
          simp only [cond_false, eqR]
          rw [decide_eq_false (fun h => e2 h.symm)]; rfl
      · rw [decide_eq_false e]
        simp only [Bool.not_false, if_true, List.any_cons, ih]
        by_cases e2 : x = nm
        · rw [decide_eq_true e2]
          simp only [cond_true, eqR, Bool.or_false, decide_eq_false_iff_not]
          rw [e2]; exact e
        · rw [decide_eq_false e2]; rfl
  rw [List.any_append, h1]
  cases v with
  | false => simp
  | true =>
    simp only [cond_true, List.any_cons, List.any_nil, Bool.or_false, eqR]
    by_cases e : x = nm
    · rw [decide_eq_true e, decide_eq_true e.symm]; rfl
    · rw [decide_eq_false e, decide_eq_false (fun h => e h.symm)]; simp
theorem hold_exp {nm : ByteArray} {f g : Fm} {d : Dm} {c : List Int} {l : List ByteArray} {v : Bool} (hf : goodC f d c = true) (hg : goodC g d c = true) (hx : checkR (expF nm g f) d (namesF (expF nm g f) []) = 0) (hv : holdP g d c l = v) : holdP (expF nm g f) d c l = holdP f d c (lessL nm l ++ (bif v then [nm] else [])) := by
  obtain ⟨f1, f2, f3, _⟩ := good_Gd hf
  obtain ⟨g1, _, _, _⟩ := good_Gd hg
  obtain ⟨x1, x2⟩ := check_zero hx
  have e1 : checkA (expF nm g f) d = 0 := by
    unfold checkA
    rw [x1]; exact err_weak _ x2
  have e2 := f1.check (by decide) (by decide)
  have e3 := g1.check (by decide) (by decide)
  unfold holdP at hv ⊢
  rw [e3, f2] at hv
  rw [e1, e2, f2, decide_eq_true rfl, Bool.true_and, Bool.true_and]
  rw [decide_eq_true rfl, Bool.true_and, Bool.true_and] at hv
  exact val_exp (fun x => by rw [less_any, hv]) f
end Go.Proofs.YtphmhelkojdlaaaDoor
namespace Go.Proofs.YtphmhelkojdlaaaDoor
open Go.RowKit
set_option maxRecDepth 10000
set_option linter.unusedSimpArgs false
set_option linter.unusedVariables false
noncomputable abbrev b6_1 (nm : ByteArray) (g : Fm) (f : Fm) : Id × AO := ([34], .row ((celF (expF nm g f)).map .tv) false)
noncomputable abbrev b6_2 (nm : ByteArray) (g : Fm) (f : Fm) (d : Dm) : Hp := [(b6_1 nm g f), ([2], .row ((celD d).map .tv) false), ([1], .row ((celF g).map .tv) false), ([0], .row ((celF f).map .tv) false)]
noncomputable abbrev b6_3 (nm : ByteArray) (l : (List ByteArray)) (g : Fm) (f : Fm) (d : Dm) : Hp := [([54], .row (flat encStr ((lessL nm l) ++ [nm])) true), (b6_1 nm g f), ([2], .row ((celD d).map .tv) false), ([1], .row ((celF g).map .tv) false), ([0], .row ((celF f).map .tv) false)]
noncomputable abbrev b6_4 (nm : ByteArray) (l : (List ByteArray)) (g : Fm) (f : Fm) (d : Dm) : Hp := [([0, 45], .row (flat encStr (lessL nm l)) true), (b6_1 nm g f), ([2], .row ((celD d).map .tv) false), ([1], .row ((celF g).map .tv) false), ([0], .row ((celF f).map .tv) false)]
noncomputable abbrev b6_5 (d : Dm) (g : Fm) (f : Fm) : Hp := [([2], .row ((celD d).map .tv) false), ([1], .row ((celF g).map .tv) false), ([0], .row ((celF f).map .tv) false)]
noncomputable abbrev b6_6 (b : List ByteArray) (nm : ByteArray) (g : Fm) (f : Fm) (d : Dm) : Hp := [([0, 45], .row (flat encStr b) false), (b6_1 nm g f), ([2], .row ((celD d).map .tv) false), ([1], .row ((celF g).map .tv) false), ([0], .row ((celF f).map .tv) false)]
theorem l6 (f : Fm) (g : Fm) (d : Dm) (c : (List Int)) (l : (List ByteArray)) (nm : ByteArray)  : PureCall Tryd.prog 6 [agF f, agF g, agD d, .tv (.sli 1 (c.map encI)), .tv (.sli 1 (l.map encStr)), .tv (.str nm)] (.tv (.bool true)) := by
  refine walk0 (fn := Tryd.f6) [.tmp 12] Tryd.func6 rfl (by kernel_rfl) rfl (by kernel_rfl) (by kernel_rfl) ?_
  change AT _ _ _ ⟨[(0, agF f), (1, agF g), (2, agD d), (3, .tv (.sli 1 (c.map encI))), (4, .tv (.sli 1 (l.map encStr))), (5, .tv (.str nm))], [], [], 0⟩
  refine at_B [3, 4, 5, 6, 7, 8] [] [] [(1000000, .any), (3, .tv (.sli 1 (c.map encI))), (4, .tv (.sli 1 (l.map encStr))), (5, .tv (.str nm)), (6, .ptr [0] 0), (7, .ptr [1] 0), (8, .ptr [2] 0)] (b6_5 d g f) 4 (by kernel_rfl) ?_ ?_
  · exact trivial
  refine at_B [3, 4, 5, 6, 7, 8, 13] [.ret (.tv (.bool true))] [PureCall Tryd.prog 11 [] (.tv (.bool true))] [(1000000, .any), (3, .tv (.sli 1 (c.map encI))), (4, .tv (.sli 1 (l.map encStr))), (5, .tv (.str nm)), (6, .ptr [0] 0), (7, .ptr [1] 0), (8, .ptr [2] 0), (13, .tv (.bool true))] (b6_5 d g f) 6 (by kernel_rfl) ?_ ?_
  · exact ⟨(c11), trivial⟩
  refine at_seq ?_
  refine at_B [3, 4, 5, 6, 7, 8, 13, 41] [.std, .std, .std, .ret (.tv (.bool (fewD d c l))), .std, .std, .std, .std, .std, .std, .std, .std, .std, .std, .ret (.tv (.bool (goodC f d c))), .std, .std, .std, .std, .std, .std, .ret (.tv (.bool (goodC g d c)))] [PureCall Tryd.prog 13 [agD d, .tv (.sli 1 (c.map encI)), .tv (.sli 1 (l.map encStr))] (.tv (.bool (fewD d c l))), (((!(fewD d c l)) || (decide ((60 : Int) < ((nm.size : Nat) : Int)))) = false) → PureCall Tryd.prog 28 [agF f, agD d, .tv (.sli 1 (c.map encI))] (.tv (.bool (goodC f d c))), ((((!(fewD d c l)) || (decide ((60 : Int) < ((nm.size : Nat) : Int)))) || (!(goodC f d c))) = false) → PureCall Tryd.prog 28 [agF g, agD d, .tv (.sli 1 (c.map encI))] (.tv (.bool (goodC g d c)))] [(1000000, .any), (3, .tv (.sli 1 (c.map encI))), (4, .tv (.sli 1 (l.map encStr))), (5, .tv (.str nm)), (6, .ptr [0] 0), (7, .ptr [1] 0), (8, .ptr [2] 0), (13, .tv (.bool true)), (41, .tv (.bool ((((!(fewD d c l)) || (decide ((60 : Int) < ((nm.size : Nat) : Int)))) || (!(goodC f d c))) || (!(goodC g d c)))))] (b6_5 d g f) 30 (by kernel_rfl) ?_ ?_
  · exact ⟨(c13 d c l), fun hg0 => (c28 f d c), fun hg0 => (c28 g d c), trivial⟩
  refine at_cond (b := ((((!(fewD d c l)) || (decide ((60 : Int) < ((nm.size : Nat) : Int)))) || (!(goodC f d c))) || (!(goodC g d c)))) rfl rfl (fun hc41 => ?_) (fun hc41 => ?_)
  · have q41 := hc41
    (try simp only [brs] at q41)
    refine at_B [12] [] [] [(1000000, .any), (12, .tv (.bool true))] (b6_5 d g f) 32 (by kernel_rfl) ?_ ?_
    · exact trivial
    refine at_ret ?_
    refine fin0 (.inr rfl) (.tv (.bool true)) (b6_5 d g f) (.tv (.bool true)) (H2 := (b6_5 d g f)) (by kernel_rfl) (by kernel_rfl) ?_
    refine Le.of_eq ?_
    first | rfl | (simp only [*])
  · have q41 := hc41
    (try simp only [brs] at q41)
    have hGf := (good_Gd q41.1.2).1
    have hGg := (good_Gd q41.2).1
    have hnx := nF_exp60 (s := nm) hGf hGg
    have hnf := hGf.n
    have hng := hGg.n
    have hll := few_len q41.1.1.1
    refine at_skip ?_
    change AT _ _ _ _
    refine at_B [3, 4, 5, 6, 7, 8, 13, 14] [.std, .std, .std, .ret (agF (expF nm g f))] [PureCall Tryd.prog 23 [agF f, .tv (.str nm), agF g] (agF (expF nm g f))] [(1000000, .any), (3, .tv (.sli 1 (c.map encI))), (4, .tv (.sli 1 (l.map encStr))), (5, .tv (.str nm)), (6, .ptr [0] 0), (7, .ptr [1] 0), (8, .ptr [2] 0), (13, .tv (.bool true)), (14, .ptr [34] 0)] (b6_2 nm g f d) 36 (by kernel_rfl) ?_ ?_
    · exact ⟨(c23 f nm g (by (try simp only [brs, lns] at *); omega)), trivial⟩
    refine at_seq ?_
    refine at_D [some [[34]], some [[2]], some [[34]]] [0, 0, 0, 4, 15, 31] [3, 4, 5, 6, 7, 8, 13, 14, 52] [.std, .std, .std, .ret (.tv (.sli 1 ((namesF (expF nm g f) []).map encStr))), .ret (.tv (.int .i64 (checkR (expF nm g f) d (namesF (expF nm g f) []))))] [PureCall Tryd.prog 19 [agF (expF nm g f)] (.tv (.sli 1 ((namesF (expF nm g f) []).map encStr))), PureCall Tryd.prog 16 [agF (expF nm g f), agD d, .tv (.sli 1 ((namesF (expF nm g f) []).map encStr))] (.tv (.int .i64 (checkR (expF nm g f) d (namesF (expF nm g f) []))))] [(1000000, .any), (3, .tv (.sli 1 (c.map encI))), (4, .tv (.sli 1 (l.map encStr))), (5, .tv (.str nm)), (6, .ptr [0] 0), (7, .ptr [1] 0), (8, .ptr [2] 0), (13, .tv (.bool true)), (14, .ptr [34] 0), (52, .tv (.bool (!decide ((checkR (expF nm g f) d (namesF (expF nm g f) [])) = (0 : Int)))))] (b6_2 nm g f d) 42 (by kernel_rfl) ?_ ?_
    · exact ⟨(c19 (expF nm g f) (by (try simp only [brs, lns] at *); omega)), (c16 (expF nm g f) d (namesF (expF nm g f) [])), trivial⟩
    refine at_cond (b := (!decide ((checkR (expF nm g f) d (namesF (expF nm g f) [])) = (0 : Int)))) rfl rfl (fun hc52 => ?_) (fun hc52 => ?_)
    · have q52 := hc52
      (try simp only [brs] at q52)
      refine at_B [12] [] [] [(1000000, .any), (12, .tv (.bool true))] (b6_2 nm g f d) 44 (by kernel_rfl) ?_ ?_
      · exact trivial
      refine at_ret ?_
      refine fin0 (.inr rfl) (.tv (.bool true)) (b6_2 nm g f d) (.tv (.bool true)) (H2 := (b6_2 nm g f d)) (by kernel_rfl) (by kernel_rfl) ?_
      refine Le.of_eq ?_
      first | rfl | (simp only [*])
    · have q52 := hc52
      (try simp only [brs] at q52)
      refine at_skip ?_
      change AT _ _ _ _
      refine at_B [3, 4, 5, 6, 7, 8, 13, 14, 15] [] [] [(1000000, .any), (3, .tv (.sli 1 (c.map encI))), (4, .tv (.sli 1 (l.map encStr))), (5, .tv (.str nm)), (6, .ptr [0] 0), (7, .ptr [1] 0), (8, .ptr [2] 0), (13, .tv (.bool true)), (14, .ptr [34] 0), (15, .tv .nils)] (b6_2 nm g f d) 43 (by kernel_rfl) ?_ ?_
      · exact trivial
      refine at_seq ?_
      refine at_B [3, 4, 5, 6, 7, 8, 13, 14, 15, 16] [] [] [(1000000, .any), (3, .tv (.sli 1 (c.map encI))), (4, .tv (.sli 1 (l.map encStr))), (5, .tv (.str nm)), (6, .ptr [0] 0), (7, .ptr [1] 0), (8, .ptr [2] 0), (13, .tv (.bool true)), (14, .ptr [34] 0), (15, .tv .nils), (16, .tv (.int .i64 0))] (b6_2 nm g f d) 44 (by kernel_rfl) ?_ ?_
      · exact trivial
      refine at_block ?_
      refine at_pre (Gh.own 15 1 rfl (by decide)) ?_
      refine at_loopR (X := Nat × List ByteArray) 1 (fun ((i, b) : Nat × List ByteArray) => [(1000000, .any), (3, .tv (.sli 1 (c.map encI))), (4, .tv (.sli 1 (l.map encStr))), (5, .tv (.str nm)), (6, .ptr [0] 0), (7, .ptr [1] 0), (8, .ptr [2] 0), (13, .tv (.bool true)), (14, .ptr [34] 0), (15, .sl [0, 45] 1 0 b.length), (16, .tv (.int .i64 ((i : Nat) : Int)))]) (fun ((i, b) : Nat × List ByteArray) => (b6_6 b nm g f d)) (fun ((i, b) : Nat × List ByteArray) => i ≤ l.length ∧ b = lessL nm (l.take i)) (fun ((i, b) : Nat × List ByteArray) => l.length - i) (0, []) ?_ ?_ ?_
      · exact ⟨Nat.zero_le _, rfl⟩
      · exact rn_ok [([44], [0, 45]), ([34], [34]), ([2], [2]), ([1], [1]), ([0], [0])] [] [3, 4, 5, 6, 7, 8, 13, 14, 15, 16] (trivial) (by kernel_rfl)
      · rintro ⟨i, b⟩ hinv
        dsimp only at hinv ⊢
        obtain ⟨hx1, hx2⟩ := hinv
        have hbl : b.length ≤ i := by rw [hx2]; exact Nat.le_trans (less_len _ _) (by simp; omega)
        refine at_seq ?_
        refine at_B [3, 4, 5, 6, 7, 8, 13, 14, 15, 16, 57] [] [] [(1000000, .any), (3, .tv (.sli 1 (c.map encI))), (4, .tv (.sli 1 (l.map encStr))), (5, .tv (.str nm)), (6, .ptr [0] 0), (7, .ptr [1] 0), (8, .ptr [2] 0), (13, .tv (.bool true)), (14, .ptr [34] 0), (15, .sl [0, 45] 1 0 b.length), (16, .tv (.int .i64 ((i : Nat) : Int))), (57, .tv (.bool (decide (((i : Nat) : Int) < (((l.map encStr).length : Nat) : Int)))))] (b6_6 b nm g f d) 5 (by kernel_rfl) ?_ ?_
        · exact trivial
        refine at_cond (b := (decide (((i : Nat) : Int) < (((l.map encStr).length : Nat) : Int)))) rfl rfl (fun hc57 => ?_) (fun hc57 => ?_)
        · have q57 := hc57
          (try simp only [brs] at q57)
          refine at_skip ?_
          change AT _ _ _ _
          refine at_seq ?_
          refine at_block ?_
          refine at_B [3, 4, 5, 6, 7, 8, 13, 14, 15, 16, 65] [.std, .std, .eq (.tv (.ptr [.str (l.getD i ByteArray.empty)]))] [(0 ≤ ((i : Nat) : Int) ∧ ((i : Nat) : Int) < ((((l.map encStr) : List (List TV)).length : Nat) : Int)), (.tv (.ptr (rowAt (l.map encStr) ((i : Nat) : Int))) : AV) = .tv (.ptr [.str (l.getD i ByteArray.empty)])] [(1000000, .any), (3, .tv (.sli 1 (c.map encI))), (4, .tv (.sli 1 (l.map encStr))), (5, .tv (.str nm)), (6, .ptr [0] 0), (7, .ptr [1] 0), (8, .ptr [2] 0), (13, .tv (.bool true)), (14, .ptr [34] 0), (15, .sl [0, 45] 1 0 b.length), (16, .tv (.int .i64 ((i : Nat) : Int))), (65, .tv (.bool (!decide ((l.getD i ByteArray.empty) = nm))))] (b6_6 b nm g f d) 11 (by kernel_rfl) ?_ ?_
          · exact ⟨by (try simp only [lns] at *); omega, congrArg (fun c => AV.tv (.ptr c)) (row_enc encStr l ((i : Nat) : Int) ByteArray.empty (by (try simp only [brs, lns] at *); omega)), trivial⟩
          refine at_cond (b := (!decide ((l.getD i ByteArray.empty) = nm))) rfl rfl (fun hc65 => ?_) (fun hc65 => ?_)
          · have q65 := hc65
            (try simp only [brs] at q65)
            refine at_Bl [3, 4, 5, 6, 7, 8, 13, 14, 15, 16] [.std, .std, .std, .eq (.tv (.ptr [.str (l.getD i ByteArray.empty)])), .std, .eq (.tv (.sli 1 (([(l.getD i ByteArray.empty)] : List _).map encStr))), .eff (.sl [17, 45] 1 0 (b ++ [(l.getD i ByteArray.empty)]).length) (.row (flat encStr (b ++ [(l.getD i ByteArray.empty)])) false)] [(0 ≤ ((i : Nat) : Int) ∧ ((i : Nat) : Int) < ((((l.map encStr) : List (List TV)).length : Nat) : Int)), (.tv (.ptr (rowAt (l.map encStr) ((i : Nat) : Int))) : AV) = .tv (.ptr [.str (l.getD i ByteArray.empty)]), (.tv (.sli 1 [[.str (l.getD i ByteArray.empty)]]) : AV) = .tv (.sli 1 (([(l.getD i ByteArray.empty)] : List _).map encStr)), (1 = 1 ∧ 0 = 0 ∧ (flat encStr b).length = b.length * 1 ∧ b.length + 1 ≤ 9223372036854775807 ∧ (b.length + 1) * 16 ≤ 140737488355328), (.sl [17, 45] 1 0 (b.length + 1) : AV) = .sl [17, 45] 1 0 (b ++ [(l.getD i ByteArray.empty)]).length, (.row ((flat encStr b) ++ (List.map AV.tv (List.flatten (([(l.getD i ByteArray.empty)] : List _).map encStr)))) false : AO) = .row (flat encStr (b ++ [(l.getD i ByteArray.empty)])) false] [(1000000, .any), (3, .tv (.sli 1 (c.map encI))), (4, .tv (.sli 1 (l.map encStr))), (5, .tv (.str nm)), (6, .ptr [0] 0), (7, .ptr [1] 0), (8, .ptr [2] 0), (13, .tv (.bool true)), (14, .ptr [34] 0), (15, .sl [17, 45] 1 0 (b ++ [(l.getD i ByteArray.empty)]).length), (16, .tv (.int .i64 ((i : Nat) : Int)))] [([17, 45], .row (flat encStr (b ++ [(l.getD i ByteArray.empty)])) false), (b6_1 nm g f), ([2], .row ((celD d).map .tv) false), ([1], .row ((celF g).map .tv) false), ([0], .row ((celF f).map .tv) false)] 19 (by kernel_rfl) ?_ ?_
            · exact ⟨by (try simp only [lns] at *); omega, congrArg (fun c => AV.tv (.ptr c)) (row_enc encStr l ((i : Nat) : Int) ByteArray.empty (by (try simp only [brs, lns] at *); omega)), rfl, ⟨rfl, rfl, flat_len (sz := 1) (fun _ => rfl) _, by (try simp only [brs, lns] at *); omega, by (try simp only [brs, lns] at *); omega⟩, by simp, congrArg (AO.row · false) (flat_app (rfl)), trivial⟩
            change AT _ _ _ _
            refine at_Bl [3, 4, 5, 6, 7, 8, 13, 14, 15, 16] [.std, .eq (.tv (.int .i64 ((i + 1 : Nat) : Int)))] [(.tv (.int .i64 (wr (((i : Nat) : Int) + 1))) : AV) = .tv (.int .i64 ((i + 1 : Nat) : Int))] [(1000000, .any), (3, .tv (.sli 1 (c.map encI))), (4, .tv (.sli 1 (l.map encStr))), (5, .tv (.str nm)), (6, .ptr [0] 0), (7, .ptr [1] 0), (8, .ptr [2] 0), (13, .tv (.bool true)), (14, .ptr [34] 0), (15, .sl [17, 45] 1 0 (b ++ [(l.getD i ByteArray.empty)]).length), (16, .tv (.int .i64 ((i + 1 : Nat) : Int)))] [([17, 45], .row (flat encStr (b ++ [(l.getD i ByteArray.empty)])) false), (b6_1 nm g f), ([2], .row ((celD d).map .tv) false), ([1], .row ((celF g).map .tv) false), ([0], .row ((celF f).map .tv) false)] 22 (by kernel_rfl) ?_ ?_
            · exact ⟨succ_av i (by (try simp only [lns] at *); omega), trivial⟩
            refine ⟨rfl, (i + 1, (b ++ [(l.getD i ByteArray.empty)])), ?_, ?_, ?_⟩
            · (try dsimp only); omega
            · (try dsimp only); exact ⟨by omega, by first | exact less_step (by omega) hx2 hc65 | exact less_skip (by omega) hx2 hc65⟩
            · exact rn_ok [([17, 45], [0, 45]), ([34], [34]), ([2], [2]), ([1], [1]), ([0], [0])] [[17, 45]] [3, 4, 5, 6, 7, 8, 13, 14, 15, 16] (⟨clO_flat _ _ _, trivial⟩) (by kernel_rfl)
          · have q65 := hc65
            (try simp only [brs] at q65)
            refine at_skip ?_
            change AT _ _ _ _
            refine at_Bl [3, 4, 5, 6, 7, 8, 13, 14, 15, 16] [.std, .eq (.tv (.int .i64 ((i + 1 : Nat) : Int)))] [(.tv (.int .i64 (wr (((i : Nat) : Int) + 1))) : AV) = .tv (.int .i64 ((i + 1 : Nat) : Int))] [(1000000, .any), (3, .tv (.sli 1 (c.map encI))), (4, .tv (.sli 1 (l.map encStr))), (5, .tv (.str nm)), (6, .ptr [0] 0), (7, .ptr [1] 0), (8, .ptr [2] 0), (13, .tv (.bool true)), (14, .ptr [34] 0), (15, .sl [0, 45] 1 0 b.length), (16, .tv (.int .i64 ((i + 1 : Nat) : Int)))] (b6_6 b nm g f d) 14 (by kernel_rfl) ?_ ?_
            · exact ⟨succ_av i (by (try simp only [lns] at *); omega), trivial⟩
            refine ⟨rfl, (i + 1, b), ?_, ?_, ?_⟩
            · (try dsimp only); omega
            · (try dsimp only); exact ⟨by omega, by first | exact less_step (by omega) hx2 hc65 | exact less_skip (by omega) hx2 hc65⟩
            · exact rn_ok [([0, 45], [0, 45]), ([34], [34]), ([2], [2]), ([1], [1]), ([0], [0])] [[0, 45]] [3, 4, 5, 6, 7, 8, 13, 14, 15, 16] (⟨clO_flat _ _ _, trivial⟩) (by kernel_rfl)
        · have q57 := hc57
          (try simp only [brs] at q57)
          have hsub : b = (lessL nm l) := by rw [hx2, List.take_of_length_le (by omega)]
          subst hsub
          refine at_exit ?_
          change AT _ _ _ _
          refine at_seq ?_
          refine at_B [3, 4, 5, 6, 8, 13, 14, 15, 77] [.std, .std, .std, .std, .ret (.tv (.bool (holdP g d c l)))] [PureCall Tryd.prog 26 [agF g, agD d, .tv (.sli 1 (c.map encI)), .tv (.sli 1 (l.map encStr))] (.tv (.bool (holdP g d c l)))] [(1000000, .any), (3, .tv (.sli 1 (c.map encI))), (4, .tv (.sli 1 (l.map encStr))), (5, .tv (.str nm)), (6, .ptr [0] 0), (8, .ptr [2] 0), (13, .tv (.bool true)), (14, .ptr [34] 0), (15, .sl [0, 45] 1 0 (lessL nm l).length), (77, .tv (.bool (holdP g d c l)))] [([0, 45], .row (flat encStr (lessL nm l)) false), (b6_1 nm g f), ([2], .row ((celD d).map .tv) false), ([1], .row ((celF g).map .tv) false), ([0], .row ((celF f).map .tv) false)] 51 (by kernel_rfl) ?_ ?_
          · exact ⟨(c26 g d c l), trivial⟩
          refine at_cond (b := (holdP g d c l)) rfl rfl (fun hc77 => ?_) (fun hc77 => ?_)
          · have q77 := hc77
            (try simp only [brs] at q77)
            refine at_Bl [3, 4, 6, 8, 13, 14, 15] [.std, .std, .eq (.tv (.sli 1 (([nm] : List _).map encStr))), .eff (.sl [54] 1 0 ((lessL nm l) ++ [nm]).length) (.row (flat encStr ((lessL nm l) ++ [nm])) false)] [(.tv (.sli 1 [[.str nm]]) : AV) = .tv (.sli 1 (([nm] : List _).map encStr)), (1 = 1 ∧ 0 = 0 ∧ (flat encStr (lessL nm l)).length = (lessL nm l).length * 1 ∧ (lessL nm l).length + 1 ≤ 9223372036854775807 ∧ ((lessL nm l).length + 1) * 16 ≤ 140737488355328), (.sl [54] 1 0 ((lessL nm l).length + 1) : AV) = .sl [54] 1 0 ((lessL nm l) ++ [nm]).length, (.row ((flat encStr (lessL nm l)) ++ (List.map AV.tv (List.flatten (([nm] : List _).map encStr)))) false : AO) = .row (flat encStr ((lessL nm l) ++ [nm])) false] [(1000000, .any), (3, .tv (.sli 1 (c.map encI))), (4, .tv (.sli 1 (l.map encStr))), (6, .ptr [0] 0), (8, .ptr [2] 0), (13, .tv (.bool true)), (14, .ptr [34] 0), (15, .sl [54] 1 0 ((lessL nm l) ++ [nm]).length)] [([54], .row (flat encStr ((lessL nm l) ++ [nm])) false), (b6_1 nm g f), ([2], .row ((celD d).map .tv) false), ([1], .row ((celF g).map .tv) false), ([0], .row ((celF f).map .tv) false)] 56 (by kernel_rfl) ?_ ?_
            · exact ⟨rfl, ⟨rfl, rfl, flat_len (sz := 1) (fun _ => rfl) _, by (try simp only [brs, lns] at *); omega, by (try simp only [brs, lns] at *); omega⟩, by simp, congrArg (AO.row · false) (flat_app (rfl)), trivial⟩
            change AT _ _ _ _
            refine at_pre (Gh.freeze 15 (by decide) (frz_flat2 (enc := encStr) (l := ((lessL nm l) ++ [nm])) (sz := 1) rfl (fun _ => rfl) (by decide) (by first | rfl | (simp only [lns]; done) | (simp only [lns]; omega)))) ?_
            change AT _ _ _ ⟨[(15, .tv (.sli 1 (((lessL nm l) ++ [nm]).map encStr))), (1000000, .any), (3, .tv (.sli 1 (c.map encI))), (4, .tv (.sli 1 (l.map encStr))), (6, .ptr [0] 0), (8, .ptr [2] 0), (13, .tv (.bool true)), (14, .ptr [34] 0), (15, .sl [54] 1 0 ((lessL nm l) ++ [nm]).length)], (b6_3 nm l g f d), [], 56⟩
            refine at_D [none, none, some [[34]], some [[2]], none, none, none, some [[0]], some [[2]]] [0, 1, 3, 3, 3, 3, 63, 3, 3, 3, 3, 2047, 4095, 8191, 16383] [12] [.std, .std, .std, .std, .std, .std, .ret (.tv (.bool (holdP (expF nm g f) d c l))), .std, .std, .std, .std, .ret (.tv (.bool (holdP f d c ((lessL nm l) ++ [nm]))))] [(true = true) → PureCall Tryd.prog 26 [agF (expF nm g f), agD d, .tv (.sli 1 (c.map encI)), .tv (.sli 1 (l.map encStr))] (.tv (.bool (holdP (expF nm g f) d c l))), (true = true) → PureCall Tryd.prog 26 [agF f, agD d, .tv (.sli 1 (c.map encI)), .tv (.sli 1 (((lessL nm l) ++ [nm]).map encStr))] (.tv (.bool (holdP f d c ((lessL nm l) ++ [nm]))))] [(1000000, .any), (12, .tv (.bool ((holdP (expF nm g f) d c l) == (holdP f d c ((lessL nm l) ++ [nm])))))] (b6_3 nm l g f d) 71 (by kernel_rfl) ?_ ?_
            · exact ⟨fun hg0 => (c26 (expF nm g f) d c l), fun hg0 => (c26 f d c ((lessL nm l) ++ [nm])), trivial⟩
            refine at_ret ?_
            refine fin0 (.inr rfl) (.tv (.bool ((holdP (expF nm g f) d c l) == (holdP f d c ((lessL nm l) ++ [nm]))))) (b6_3 nm l g f d) (.tv (.bool ((holdP (expF nm g f) d c l) == (holdP f d c ((lessL nm l) ++ [nm]))))) (H2 := (b6_3 nm l g f d)) (by kernel_rfl) (by kernel_rfl) ?_
            refine Le.of_eq ?_
            first | (rw [hold_exp q41.1.2 q41.2 q52 hc77]; simp) | skip
          · have q77 := hc77
            (try simp only [brs] at q77)
            refine at_skip ?_
            change AT _ _ _ _
            refine at_pre (Gh.freeze 15 (by decide) (frz_flat2 (enc := encStr) (l := (lessL nm l)) (sz := 1) rfl (fun _ => rfl) (by decide) (by first | rfl | (simp only [lns]; done) | (simp only [lns]; omega)))) ?_
            change AT _ _ _ ⟨[(15, .tv (.sli 1 ((lessL nm l).map encStr))), (1000000, .any), (3, .tv (.sli 1 (c.map encI))), (4, .tv (.sli 1 (l.map encStr))), (5, .tv (.str nm)), (6, .ptr [0] 0), (8, .ptr [2] 0), (13, .tv (.bool true)), (14, .ptr [34] 0), (15, .sl [0, 45] 1 0 (lessL nm l).length), (77, .tv (.bool (holdP g d c l)))], (b6_4 nm l g f d), [], 51⟩
            refine at_D [none, none, some [[34]], some [[2]], none, none, none, some [[0]], some [[2]]] [0, 1, 3, 3, 3, 3, 63, 3, 3, 3, 3, 2047, 4095, 8191, 16383] [12] [.std, .std, .std, .std, .std, .std, .ret (.tv (.bool (holdP (expF nm g f) d c l))), .std, .std, .std, .std, .ret (.tv (.bool (holdP f d c (lessL nm l))))] [(true = true) → PureCall Tryd.prog 26 [agF (expF nm g f), agD d, .tv (.sli 1 (c.map encI)), .tv (.sli 1 (l.map encStr))] (.tv (.bool (holdP (expF nm g f) d c l))), (true = true) → PureCall Tryd.prog 26 [agF f, agD d, .tv (.sli 1 (c.map encI)), .tv (.sli 1 ((lessL nm l).map encStr))] (.tv (.bool (holdP f d c (lessL nm l))))] [(1000000, .any), (12, .tv (.bool ((holdP (expF nm g f) d c l) == (holdP f d c (lessL nm l)))))] (b6_4 nm l g f d) 66 (by kernel_rfl) ?_ ?_
            · exact ⟨fun hg0 => (c26 (expF nm g f) d c l), fun hg0 => (c26 f d c (lessL nm l)), trivial⟩
            refine at_ret ?_
            refine fin0 (.inr rfl) (.tv (.bool ((holdP (expF nm g f) d c l) == (holdP f d c (lessL nm l))))) (b6_4 nm l g f d) (.tv (.bool ((holdP (expF nm g f) d c l) == (holdP f d c (lessL nm l))))) (H2 := (b6_4 nm l g f d)) (by kernel_rfl) (by kernel_rfl) ?_
            refine Le.of_eq ?_
            first | (rw [hold_exp q41.1.2 q41.2 q52 hc77]; simp) | skip
end Go.Proofs.YtphmhelkojdlaaaDoor
namespace Go.Proofs.YtphmhelkojdlaaaDoor
open Go.RowKit Go.ChangeShapes Go.WideShapes Go.ChangeAt
set_option linter.unusedSimpArgs false
set_option linter.unusedVariables false
section
variable {H : Type} {enc : TypeId × Value → H} {W : World}
theorem rd_3 (fuel : Nat) : Rd enc Tryd.prog W fuel 3 (fun n : Int => [.int .i64 n]) := rd_int Tryd.underlying3
theorem rd_9 (fuel : Nat) : Rd enc Tryd.prog W fuel 9 (fun s : ByteArray => [.str s]) := rd_str Tryd.underlying9
theorem rde_24 : ∀ (fuel : Nat), Rd enc Tryd.prog W fuel 24 encF := by
  intro fuel
  induction fuel using Nat.strongRecOn with
  | _ fuel ih =>
  cases fuel with
  | zero => exact rd_zero
  | succ fuel =>
    intro cs x h
    obtain ⟨hl, hf⟩ := rd_fields Tryd.underlying24 h
    have rk : Rd enc Tryd.prog W fuel 22 (fun l : List Fm => [.sli 5 (l.map encF)]) := by
      cases fuel with
      | zero => exact rd_zero
      | succ fuel => exact rd_slice Tryd.underlying22 (by kernel_rfl) encF_len (ih fuel (by omega))
    obtain ⟨a0, r0⟩ := rd_field hf 0 3 0 1 rfl (by kernel_rfl) (rd_3 fuel)
    obtain ⟨a1, r1⟩ := rd_field hf 1 9 1 1 rfl (by kernel_rfl) (rd_9 fuel)
    obtain ⟨a2, r2⟩ := rd_field hf 2 3 2 1 rfl (by kernel_rfl) (rd_3 fuel)
    obtain ⟨a3, r3⟩ := rd_field hf 3 3 3 1 rfl (by kernel_rfl) (rd_3 fuel)
    obtain ⟨a4, r4⟩ := rd_field hf 4 22 4 1 rfl (by kernel_rfl) (rk)
    refine ⟨(Fm.mk a0 a1 a2 a3 a4), ?_⟩
    rw [encF_eq]
    exact CR.app (off := 0) (n := 1) r0 rfl (CR.app (off := 1) (n := 1) r1 rfl (CR.app (off := 2) (n := 1) r2 rfl (CR.app (off := 3) (n := 1) r3 rfl (CR.app (off := 4) (n := 1) r4 rfl (CR.fin (n := 5) (hl.trans (by kernel_rfl)))))))
theorem rd_24 (fuel : Nat) : Rd enc Tryd.prog W fuel 24 celF := rd_ext (rde_24 fuel) (fun a => ⟨a, (encF_eq a).symm⟩)
theorem rd_52 (fuel : Nat) : Rd enc Tryd.prog W fuel 52 celC := by
  cases fuel with
  | zero => exact rd_zero
  | succ fuel =>
    intro cs x h
    obtain ⟨hl, hf⟩ := rd_fields Tryd.underlying52 h
    obtain ⟨a0, r0⟩ := rd_field hf 0 9 0 1 rfl (by kernel_rfl) (rd_9 fuel)
    obtain ⟨a1, r1⟩ := rd_field hf 1 3 1 1 rfl (by kernel_rfl) (rd_3 fuel)
    obtain ⟨a2, r2⟩ := rd_field hf 2 3 2 1 rfl (by kernel_rfl) (rd_3 fuel)
    obtain ⟨a3, r3⟩ := rd_field hf 3 3 3 1 rfl (by kernel_rfl) (rd_3 fuel)
    refine ⟨(Fc.mk a0 a1 a2 a3), ?_⟩
    exact CR.app (off := 0) (n := 1) r0 rfl (CR.app (off := 1) (n := 1) r1 rfl (CR.app (off := 2) (n := 1) r2 rfl (CR.app (off := 3) (n := 1) r3 rfl (CR.fin (n := 4) (hl.trans (by kernel_rfl))))))
theorem rd_25 (fuel : Nat) : Rd enc Tryd.prog W fuel 25 (fun l : List Fc => [.sli 4 (l.map celC)]) := by
  cases fuel with
  | zero => exact rd_zero
  | succ fuel => exact rd_slice Tryd.underlying25 (by kernel_rfl) (fun _ => rfl) (rd_52 fuel)
theorem rd_27 (fuel : Nat) : Rd enc Tryd.prog W fuel 27 celD := by
  cases fuel with
  | zero => exact rd_zero
  | succ fuel =>
    intro cs x h
    obtain ⟨hl, hf⟩ := rd_fields Tryd.underlying27 h
    obtain ⟨a0, r0⟩ := rd_field hf 0 25 0 1 rfl (by kernel_rfl) (rd_25 fuel)
    refine ⟨(Dm.mk a0), ?_⟩
    exact CR.app (off := 0) (n := 1) r0 rfl (CR.fin (n := 1) (hl.trans (by kernel_rfl)))
theorem rd_29 (fuel : Nat) : Rd enc Tryd.prog W fuel 29 (fun l : List Int => [.sli 1 (l.map encI)]) := by
  cases fuel with
  | zero => exact rd_zero
  | succ fuel => exact rd_slice Tryd.underlying29 (by kernel_rfl) (fun _ => rfl) (rd_3 fuel)
theorem rd_30 (fuel : Nat) : Rd enc Tryd.prog W fuel 30 (fun l : List ByteArray => [.sli 1 (l.map encStr)]) := by
  cases fuel with
  | zero => exact rd_zero
  | succ fuel => exact rd_slice Tryd.underlying30 (by kernel_rfl) (fun _ => rfl) (rd_9 fuel)
end
theorem own : ownKnob Tryd.prog.godebug = none := by kernel_rfl
theorem laidOut : laidOutB Tryd.prog = true := by kernel_rfl
abbrev laidL {H : Type} : List (String × DataW H) := [("math/bits.deBruijn32tab", Rows.laid_math_bits_deBruijn32tab), ("math/bits.deBruijn64tab", Rows.laid_math_bits_deBruijn64tab), ("internal/strconv.uint64pow10", Rows.laid_internal_strconv_uint64pow10), ("strconv.ErrRange", Rows.laid_strconv_ErrRange), ("strconv.ErrSyntax", Rows.laid_strconv_ErrSyntax)]
/-- The door's own heap meets the condition. -/
theorem door_met (os : Os) (args : Array Value) : laidMetH Tryd.prog laidL ((World.doorLaid Tryd.prog 4000 os).forCall (fun _ _ => 0) ⟨#[], args, []⟩).memory :=
  laidMetH_of_parts3 (fuel := 8) (laidMet_of_run' 8 (by kernel_rfl) (by kernel_rfl)) (by kernel_rfl) (by kernel_rfl)
end Go.Proofs.YtphmhelkojdlaaaDoor
namespace Go.Proofs.YtphmhelkojdlaaaDoor
open Go.RowKit Go.ChangeShapes Go.WideShapes Go.ChangeAt
set_option linter.unusedSimpArgs false
set_option linter.unusedVariables false
theorem law6_pure (f g : Fm) (d : Dm) (c : List Int) (l : List ByteArray) (nm : ByteArray) : PureCall Tryd.prog 6 [.agg ((celF f).map .tv), .agg ((celF g).map .tv), .agg ((celD d).map .tv), .tv (.sli 1 (c.map encI)), .tv (.sli 1 (l.map encStr)), .tv (.str nm)] (.tv (.bool true)) := l6 f g d c l nm
set_option maxRecDepth 100000 in
theorem lifted6 (os : Os) (started : os.Started) (H : Type) (enc : TypeId × Value → H) :
    ReturnsInHanded {} Tryd.checked os 6 .any (fun w args => (Rows.formulaExpandsSpec.pre enc Tryd.prog Tryd.f6 [] false w args ∧ laidMetH Tryd.prog laidL w) ∧ sizedMet enc Tryd.prog Tryd.f6 (OpenSpec.ofChange Rows.formulaExpandsSpec) false w args) (Rows.formulaExpandsSpec.post enc Tryd.prog Tryd.f6 false true false false) := by
  refine returnsInHanded_of_change_and (C := Tryd.checked) (X := fun w _ => laidMetH Tryd.prog laidL w) (fun _ _ _ hh h => h.of_heap hh) own started (by kernel_rfl) Tryd.func6
    (ChangeSpec.witness_shaped (enc := enc) (C := Tryd.checked) (os := os) (X := fun w _ => laidMetH Tryd.prog laidL w) false (World.doorLaid Tryd.prog 4000 os) #[.agg #[.int .i64 0, .string ⟨#[]⟩, .int .i64 0, .int .i64 0, .slice none 0 0], .agg #[.int .i64 0, .string ⟨#[]⟩, .int .i64 0, .int .i64 0, .slice none 0 0], .agg #[.slice none 0 0], .slice none 0 0, .slice none 0 0, .string ⟨#[]⟩] 8 rfl (World.shaped_of_RefB (by kernel_rfl) (by kernel_rfl)) (by kernel_rfl) (by kernel_rfl) (by kernel_rfl) (door_met os _)) ?_
  intro W base args ds gs before hval0 hW _ _ hL _
  have hval : ∀ (j : Nat) t v, Tryd.f6.params[j]? = some t → args[j]? = some v → Value.okWide Tryd.prog W .any base t v := hval0
  have hW' := hW
  obtain ⟨p, q, hA0, hV, rfl, _, _⟩ := hW
  have hA : DataW.TrodAll enc Tryd.prog W 0 (fun _ => true) true Tryd.f6.params.toList args.toList ds p := hA0
  rw [Tryd.params6] at hA hval
  obtain ⟨v0, vs0, d0, ds0, p0, q0, hargs, rfl, rfl, h0, g0⟩ := trodAll_cons hA
  obtain ⟨v1, vs1, d1, ds1, p1, q1, rfl, rfl, rfl, h1, g1⟩ := trodAll_cons g0
  obtain ⟨v2, vs2, d2, ds2, p2, q2, rfl, rfl, rfl, h2, g2⟩ := trodAll_cons g1
  obtain ⟨v3, vs3, d3, ds3, p3, q3, rfl, rfl, rfl, h3, g3⟩ := trodAll_cons g2
  obtain ⟨v4, vs4, d4, ds4, p4, q4, rfl, rfl, rfl, h4, g4⟩ := trodAll_cons g3
  obtain ⟨v5, vs5, d5, ds5, p5, q5, rfl, rfl, rfl, h5, g5⟩ := trodAll_cons g4
  obtain ⟨rfl, rfl, rfl⟩ := trodAll_nil g5
  obtain rfl : args = #[v0, v1, v2, v3, v4, v5] := by cases args; simp_all
  obtain ⟨rfl, rfl⟩ := trodVars_none hV
  obtain ⟨us0, rfl, _⟩ := okWide_struct Tryd.underlying24 (hval 0 24 v0 rfl rfl)
  obtain ⟨x0, y0⟩ := arg_agg (ι := fun _ => none) rd_24 h0
  obtain ⟨us1, rfl, _⟩ := okWide_struct Tryd.underlying24 (hval 1 24 v1 rfl rfl)
  obtain ⟨x1, y1⟩ := arg_agg (ι := fun _ => none) rd_24 h1
  obtain ⟨us2, rfl, _⟩ := okWide_struct Tryd.underlying27 (hval 2 27 v2 rfl rfl)
  obtain ⟨x2, y2⟩ := arg_agg (ι := fun _ => none) rd_27 h2
  obtain ⟨z3, len3, cap3, rfl⟩ := okWide_slice Tryd.underlying29 (hval 3 29 v3 rfl rfl)
  obtain ⟨x3, y3⟩ := arg_one (ι := fun _ => none) rfl rd_29 h3
  obtain ⟨z4, len4, cap4, rfl⟩ := okWide_slice Tryd.underlying30 (hval 4 30 v4 rfl rfl)
  obtain ⟨x4, y4⟩ := arg_one (ι := fun _ => none) rfl rd_30 h4
  obtain ⟨z5, rfl⟩ := okWide_string Tryd.underlying9 (hval 5 9 v5 rfl rfl)
  obtain ⟨x5, y5⟩ := arg_one (ι := fun _ => none) rfl rd_9 h5
  clear hA0 hval0
  simp only [List.append_nil] at hW'
  have hlt : ∀ x ∈ p0 ++ p1 ++ p2 ++ p3 ++ p4 ++ p5, x.block < W.heap.size := fun x hx => by simpa using hW'.lt x (by simpa using hx)
  refine (law_calls (P := Tryd.prog) (b := true) (law6_pure x0 x1 x2 x3 x4 x5) (VRs.cons y0 (VRs.cons y1 (VRs.cons y2 (VRs.cons y3 (VRs.cons y4 (VRs.cons y5 (VRs.nil _ _)))))))).mono fun e W' ⟨he, hb⟩ => ?_
  subst he
  refine ⟨_, rfl, _, _, _, [], _, [], hW', trodAll_mk1 (shut_bool Tryd.underlying4 true), (trodAll_cons_mk (Below.trod laidOut (by kernel_rfl) (of_decide_eq_true (by kernel_rfl)) h0 hb (fun x hx => hlt x (by simp [hx]))) (trodAll_cons_mk (Below.trod laidOut (by kernel_rfl) (of_decide_eq_true (by kernel_rfl)) h1 hb (fun x hx => hlt x (by simp [hx]))) (trodAll_cons_mk (Below.trod laidOut (by kernel_rfl) (of_decide_eq_true (by kernel_rfl)) h2 hb (fun x hx => hlt x (by simp [hx]))) (trodAll_cons_mk (Below.trod laidOut (by kernel_rfl) (of_decide_eq_true (by kernel_rfl)) h3 hb (fun x hx => hlt x (by simp [hx]))) (trodAll_cons_mk (Below.trod laidOut (by kernel_rfl) (of_decide_eq_true (by kernel_rfl)) h4 hb (fun x hx => hlt x (by simp [hx]))) (trodAll_cons_mk (Below.trod laidOut (by kernel_rfl) (of_decide_eq_true (by kernel_rfl)) h5 hb (fun x hx => hlt x (by simp [hx]))) trodAll_mk0)))))), rfl, hb.frame _, fun h => by cases h⟩
theorem proved6 : Rows.FormulaExpandsSaid :=
  OpenClaim.holds_of_wide 6 Tryd.f6 rfl rfl rfl rfl rfl rfl rfl ⟨rfl, rfl, rfl, rfl, rfl⟩ rfl rfl rfl rfl rfl (by kernel_rfl) Tryd.func6 (by kernel_rfl)
    (of_decide_eq_true (by kernel_rfl)) (by unfold Func.isWrapper; first | (rw [if_pos (by decide +kernel)]; kernel_rfl) | (rw [if_neg (by decide +kernel)]; exact ⟨rfl, rfl⟩))
    (fun os started H enc _ => lifted6 os started H enc)
theorem card6 : Rows.FormulaExpandsCardSaid :=
  Claim7.holds_tied_plain_at .later [] _ true (true, "4a36700912013bb2f555b7a01611f8226529d3d0a19222fa014a5d6bd73064b1") true
    proved6 (fun _ h => by cases h) (by kernel_rfl) (fun _ h => by cases h) formulaExpands_row_tie rfl ⟨rfl, rfl⟩ (by kernel_rfl) rfl
    (fun f fn hf hfn => by
      obtain rfl : f = 6 := Option.some.inj ((show Tryd.prog.funcNamed "pandect/pandectlaw07.FormulaExpands" = some 6 by kernel_rfl).symm.trans hf) |>.symm
      obtain rfl : fn = Tryd.f6 := (Option.some.inj (Tryd.func6.symm.trans hfn)).symm
      exact ⟨by kernel_rfl, fun j t ht => by
        rw [Tryd.params6] at ht
        have hm : t ∈ [24, 24, 27, 29, 30, 9] := by simpa using Array.mem_of_getElem? ht
        have hall : ([24, 24, 27, 29, 30, 9].all fun u => !Tryd.prog.wantsStandIn u) = true := by kernel_rfl
        exact (show Tryd.prog.wantsStandIn t = false by simpa using List.all_eq_true.1 hall t hm)⟩)
    (by kernel_rfl)
#print axioms card6
end Go.Proofs.YtphmhelkojdlaaaDoor
