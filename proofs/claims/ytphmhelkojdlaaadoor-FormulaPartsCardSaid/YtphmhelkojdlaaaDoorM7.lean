/- Part M7 of the proof. -/
import Derived.Test.YtphmhelkojdlaaaDoorRows
import Derived.LaidMore
import Derived.Stop.Joined
import Derived.Test.YtphmhelkojdlaaaDoorCards
import Derived.Test.YtphmhelkojdlaaaDoorTie
import Derived.Test.YtphmhelkojdlaaaDoorM6
namespace Go.Proofs.YtphmhelkojdlaaaDoor
open Go.RowKit
set_option linter.unusedSimpArgs false
set_option linter.unusedVariables false
theorem mx_or (a b : Int) : mx a b = a ∧ b ≤ a ∨ mx a b = b ∧ a ≤ b := by
  unfold mx
  split
  · exact .inr ⟨rfl, by omega⟩
  · exact .inl ⟨rfl, by omega⟩
theorem szFs_ok {l : List Fm} (h : ∀ k ∈ l, nF k ≤ 1000000 → (szF k).1 = (nF k : Int) ∧ 1 ≤ (szF k).2 ∧ (szF k).2 ≤ (nF k : Int)) :
    ∀ (a d : Int), 1 ≤ a → a + (nFs l : Int) ≤ 1000001 → 0 ≤ d → d ≤ 1000000 → (szFs l a d).1 = a + (nFs l : Int) ∧ d ≤ (szFs l a d).2 ∧ (szFs l a d).2 ≤ d + (nFs l : Int) := by
  induction l with
  | nil => intro a d h1 h2 h3 h4; simp only [szFs, nFs]; omega
  | cons k r ih =>
    intro a d h1 h2 h3 h4
    simp only [nFs] at h2
    have hp := nF_pos k
    obtain ⟨a1, a2, a3⟩ := h k (by simp) (by omega)
    simp only [szFs, nFs]
    have hw : wr (a + (szF k).1) = a + (szF k).1 := wr_fit _ ⟨by omega, by omega⟩
    rw [hw, a1]
    have hm := mx_or d (szF k).2
    obtain ⟨b1, b2, b3⟩ := ih (fun x hx => h x (by simp [hx])) (a + (nF k : Int)) (mx d (szF k).2) (by omega) (by omega) (by omega) (by omega)
    refine ⟨by omega, by omega, by omega⟩
theorem szF_ok : ∀ f : Fm, nF f ≤ 1000000 → (szF f).1 = (nF f : Int) ∧ 1 ≤ (szF f).2 ∧ (szF f).2 ≤ (nF f : Int) := by
  refine Fm.ind (fun f ih => ?_)
  intro hn
  rw [nF_eq] at hn ⊢
  rw [szF_eq]
  obtain ⟨a, b, c⟩ := szFs_ok ih 1 0 (by omega) (by omega) (by omega) (by omega)
  simp only
  rw [wr_fit _ ⟨by omega, by omega⟩]
  omega
/-- A formula with at most k nodes and e levels, of which every node is well-formed. -/
structure Gd (d : Dm) (k e : Int) (f : Fm) : Prop where
  n : (nF f : Int) ≤ k
  e : (szF f).2 ≤ e
  z : errF (oneR d [] true) f = 0
theorem one_weak {d : Dm} {l : List ByteArray} {f : Fm} (h : oneR d l false f = 0) : oneR d [] true f = 0 := by
  obtain ⟨h1, h2, h3⟩ := one_zero h
  refine one_0 (by rw [h1]; rfl) h2 ?_
  unfold nameE at h3 ⊢
  rw [Bool.or_eq_false_iff] at h3
  rw [h3.1]; simp
theorem errFs_all {e : Fm → Int} {l : List Fm} (h : ∀ k ∈ l, errF e k = 0) : errFs e l = 0 := by
  induction l with
  | nil => rfl
  | cons k r ih => simp only [errFs, h k (by simp), ih (fun x hx => h x (by simp [hx]))]; rfl
theorem errF_mk {e : Fm → Int} {f : Fm} (h : e f = 0) (hk : ∀ k ∈ f.ks, errF e k = 0) : errF e f = 0 := by
  rw [errF_eq, h, errFs_all hk]; rfl
theorem err_weak {d : Dm} {l : List ByteArray} : ∀ f : Fm, errF (oneR d l false) f = 0 → errF (oneR d [] true) f = 0 := by
  refine Fm.ind (fun f ih => ?_)
  intro h
  obtain ⟨h1, h2⟩ := errF_zero h
  exact errF_mk (one_weak h1) (fun k hk => ih k hk (h2 k hk))
theorem large_iff {f : Fm} (hn : nF f ≤ 1000000) : largeR f = false ↔ (nF f : Int) ≤ 200 ∧ (szF f).2 ≤ 20 := by
  have := szF_ok f hn
  unfold largeR
  rw [Bool.or_eq_false_iff, decide_eq_false_iff_not, decide_eq_false_iff_not, this.1]
  omega
theorem Gd.check {d : Dm} {k e : Int} {f : Fm} (h : Gd d k e f) (hk : k ≤ 200) (he : e ≤ 20) : checkA f d = 0 := by
  have h1 := h.n
  have h2 := h.e
  have hl : largeR f = false := (large_iff (by omega)).2 ⟨by omega, by omega⟩
  unfold checkA
  rw [hl, h.z]; rfl
theorem Gd.hold {d : Dm} {k e : Int} {f : Fm} (h : Gd d k e f) (hk : k ≤ 200) (he : e ≤ 20) {c : List Int} (hc : fitsD d c = true) (l : List ByteArray) : holdP f d c l = valF d c l f := by
  unfold holdP
  rw [h.check hk he, hc]; rfl
theorem good_Gd {f : Fm} {d : Dm} {c : List Int} (h : goodC f d c = true) : Gd d 60 16 f ∧ fitsD d c = true ∧ validD d = true ∧ checkR f d (namesF f []) = 0 := by
  unfold goodC at h
  cases hv : validD d with
  | false => rw [hv] at h; simp at h
  | true =>
    cases hf : fitsD d c with
    | false => rw [hf] at h; simp at h
    | true =>
      by_cases hc : cntF f 300 ≤ 300
      · rw [hv, hf, decide_eq_true hc] at h
        simp only [Bool.not_true, Bool.or_false, cond_false, Bool.and_eq_true, decide_eq_true_eq] at h
        obtain ⟨⟨h1, h2⟩, h3⟩ := h
        have hn := nF_le hc (by decide) (by decide)
        have hs := szF_ok f hn.1
        refine ⟨⟨by omega, h2, ?_⟩, rfl, rfl, h3⟩
        unfold checkR at h3
        cases hl : largeR f with
        | true => rw [hl] at h3; exact absurd (show (2 : Int) = 0 from h3) (by decide)
        | false => rw [hl] at h3; exact err_weak f h3
      · rw [decide_eq_false hc] at h; simp at h
/-! ### Connectives -/
theorem one_op {d : Dm} {f : Fm} (h : formedR f = true) (h3 : ¬ f.op = 3) (h4 : ¬ f.op = 4) : oneR d [] true f = 0 := by
  refine one_0 (by rw [h]; rfl) ?_ ?_
  · unfold rangeE; rw [decide_eq_false h3]; rfl
  · unfold nameE; rw [decide_eq_false h3, decide_eq_false h4]; rfl
theorem Gd.one {d : Dm} {k e : Int} {f : Fm} (h : Gd d k e f) (hk : k ≤ 1000) (he : e ≤ 1000) : Gd d (k + 1) (e + 1) (.mk 5 ⟨#[]⟩ 0 0 [f]) := by
  have hn := h.n
  have hs := szF_ok f (by omega)
  have he' := h.e
  refine ⟨?_, ?_, errF_mk (one_op (by rfl) (by show ¬ (5 : Int) = 3; decide) (by show ¬ (5 : Int) = 4; decide)) (fun x hx => ?_)⟩
  · simp only [nF, nFs]; omega
  · rw [szF_eq]
    simp only [Fm.ks, szFs]
    have := mx_or 0 (szF f).2
    rw [wr_fit _ ⟨by omega, by omega⟩]; omega
  · simp only [Fm.ks, List.mem_singleton] at hx; subst hx; exact h.z
end Go.Proofs.YtphmhelkojdlaaaDoor
namespace Go.Proofs.YtphmhelkojdlaaaDoor
open Go.RowKit
set_option linter.unusedSimpArgs false
set_option linter.unusedVariables false
theorem TLs.of_eq {l l' : List TV} (h : l = l') : TLs l l' := h ▸ TLs.refl l
theorem szFs_ge {l : List Fm} : ∀ (a d : Int), d ≤ (szFs l a d).2 ∧ ∀ k ∈ l, (szF k).2 ≤ (szFs l a d).2 := by
  induction l with
  | nil => intro a d; exact ⟨Int.le_refl _, fun k hk => by simp at hk⟩
  | cons x r ih =>
    intro a d
    simp only [szFs]
    obtain ⟨h1, h2⟩ := ih (wr (a + (szF x).1)) (mx d (szF x).2)
    have hm := mx_or d (szF x).2
    refine ⟨by omega, fun k hk => ?_⟩
    simp only [List.mem_cons] at hk
    rcases hk with rfl | hk
    · omega
    · exact h2 k hk
theorem kid_depth {f k : Fm} (hn : nF f ≤ 1000000) (hk : k ∈ f.ks) : (szF k).2 + 1 ≤ (szF f).2 := by
  have h1 := (szFs_ge (l := f.ks) 1 0).2 k hk
  have h2 : nFs f.ks ≤ 1000000 := by rw [nF_eq] at hn; omega
  have h3 := szFs_ok (l := f.ks) (fun k _ hn => szF_ok k hn) 1 0 (by omega) (by omega) (by omega) (by omega)
  rw [szF_eq f]
  simp only
  rw [wr_fit _ ⟨by omega, by omega⟩]; omega
theorem large_kid {f k : Fm} (hn : nF f ≤ 1000000) (h : largeR f = false) (hk : k ∈ f.ks) : largeR k = false := by
  have h1 := (large_iff hn).1 h
  have h2 := nF_kid (n := nF f) (Nat.le_refl _) hk
  have h3 := kid_depth hn hk
  exact (large_iff (by omega)).2 ⟨by omega, by omega⟩
theorem check_zero {f : Fm} {d : Dm} {l : List ByteArray} (h : checkR f d l = 0) : largeR f = false ∧ errF (oneR d l false) f = 0 := by
  unfold checkR at h
  cases hl : largeR f with
  | true => rw [hl] at h; exact absurd (show (2 : Int) = 0 from h) (by decide)
  | false => rw [hl] at h; exact ⟨rfl, h⟩
theorem parts_kid {f : Fm} {d : Dm} {c : List Int} (h : goodC f d c = true) {k : Fm} (hk : k ∈ f.ks) : checkR k d (namesF f []) = 0 := by
  obtain ⟨g, _, _, h3⟩ := good_Gd h
  have hn := g.n
  obtain ⟨h4, h5⟩ := check_zero h3
  unfold checkR
  rw [large_kid (by omega) h4 hk]
  exact (errF_zero h5).2 k hk
theorem formedR_mk (o : Int) (nm : ByteArray) (cm n : Int) (ks : List Fm) : formedR (.mk o nm cm n ks) = bif (bif (decide (o = (1 : Int))) then (decide (o = (1 : Int))) else (decide (o = (2 : Int)))) then (((((decide (nm = ⟨#[]⟩)) && (decide (cm = (0 : Int)))) && (decide (n = (0 : Int)))) && (decide ((((ks.map encF).length : Nat) : Int) = (0 : Int))))) else (bif (decide (o = (3 : Int))) then (((((decide ((1 : Int) ≤ cm)) && (decide (cm ≤ (6 : Int)))) && (decide ((((ks.map encF).length : Nat) : Int) = (0 : Int)))) && (nameP nm))) else (bif (decide (o = (4 : Int))) then (((((decide (cm = (0 : Int))) && (decide (n = (0 : Int)))) && (decide ((((ks.map encF).length : Nat) : Int) = (0 : Int)))) && (nameP nm))) else (bif (decide (o = (5 : Int))) then (((((decide (nm = ⟨#[]⟩)) && (decide (cm = (0 : Int)))) && (decide (n = (0 : Int)))) && (decide ((((ks.map encF).length : Nat) : Int) = (1 : Int))))) else (bif (bif (decide (o = (6 : Int))) then (decide (o = (6 : Int))) else (decide (o = (7 : Int)))) then (((((decide (nm = ⟨#[]⟩)) && (decide (cm = (0 : Int)))) && (decide (n = (0 : Int)))) && (decide ((2 : Int) ≤ (((ks.map encF).length : Nat) : Int))))) else (false))))) := rfl
theorem formed_7 (o : Int) : formedR (.mk o ⟨#[]⟩ 7 0 []) = false := by
  rw [formedR_mk]
  simp only [List.map_nil, List.length_nil]
  cases decide (o = 1) <;> cases decide (o = 2) <;> cases decide (o = 3) <;> cases decide (o = 4) <;> cases decide (o = 5) <;> cases decide (o = 6) <;> cases decide (o = 7) <;> simp
theorem err_beside {e : Fm → Int} {f x : Fm} {v : Int} (h0 : e (.mk 7 ⟨#[]⟩ 0 0 [f, x]) = 0) (h1 : errF e f = 0) (h2 : e x = v) (hv : ¬ v = 0) : errF e (.mk 7 ⟨#[]⟩ 0 0 [f, x]) = v := by
  rw [errF_eq, h0]
  simp only [decide_true, cond_true, Fm.ks, errFs, h1]
  rw [err_at h2 hv, decide_eq_false hv]; rfl
theorem beside_small {f : Fm} {d : Dm} {c : List Int} (h : goodC f d c = true) (o : Int) : largeR (.mk 7 ⟨#[]⟩ 0 0 [f, .mk o ⟨#[]⟩ 7 0 []]) = false := by
  obtain ⟨g, _, _, _⟩ := good_Gd h
  have hn := g.n
  have he := g.e
  have hs := szF_ok f (by omega)
  have e1 : szF (.mk o ⟨#[]⟩ 7 0 []) = (1, 1) := by rw [szF_eq]; rfl
  refine (large_iff ?_).2 ⟨?_, ?_⟩
  · simp only [nF, nFs]; omega
  · simp only [nF, nFs]; omega
  · rw [szF_eq]
    simp only [Fm.ks, szFs, e1]
    have m1 := mx_or 0 (szF f).2
    have m2 := mx_or (mx 0 (szF f).2) 1
    rw [wr_fit _ ⟨by omega, by omega⟩]; omega
theorem beside_check {f : Fm} {d : Dm} {c : List Int} (h : goodC f d c = true) (o : Int) : checkR (.mk 7 ⟨#[]⟩ 0 0 [f, .mk o ⟨#[]⟩ 7 0 []]) d (namesF f []) = 1 := by
  obtain ⟨g, _, _, h3⟩ := good_Gd h
  unfold checkR
  rw [beside_small h o]
  refine err_beside ?_ (check_zero h3).2 (one_1 (by rw [formed_7]; rfl)) (by decide)
  refine one_0 (by rfl) (by rfl) (by rfl)
theorem beside_hold {f : Fm} {d : Dm} {c : List Int} (h : goodC f d c = true) (o : Int) (l : List ByteArray) : holdP (.mk 7 ⟨#[]⟩ 0 0 [f, .mk o ⟨#[]⟩ 7 0 []]) d c l = false := by
  obtain ⟨g, _, _, _⟩ := good_Gd h
  have : checkA (.mk 7 ⟨#[]⟩ 0 0 [f, .mk o ⟨#[]⟩ 7 0 []]) d = 1 := by
    unfold checkA
    rw [beside_small h o]
    exact err_beside (one_op (by rfl) (by show ¬ (7 : Int) = 3; decide) (by show ¬ (7 : Int) = 4; decide)) g.z (one_1 (by rw [formed_7]; rfl)) (by decide)
  unfold holdP
  rw [this]; rfl
theorem check_bad {f : Fm} {d : Dm} {l : List ByteArray} (hf : formedR f = false) (hl : largeR f = false) : checkR f d l = 1 := by
  unfold checkR
  rw [hl]
  exact err_at (one_1 (by rw [hf]; rfl)) (by decide)
theorem large_ks {f g : Fm} (h : g.ks = f.ks) : largeR g = largeR f := by
  unfold largeR
  rw [szF_eq g, szF_eq f, h]
theorem parts_leaf {f : Fm} {d : Dm} {l : List ByteArray} (ho : f.op = 3 ∨ f.op = 4) : checkR (.mk f.op f.nm f.cm f.n [.mk 1 ⟨#[]⟩ 0 0 []]) d l = 1 := by
  refine check_bad ?_ ?_
  · rw [formedR_mk]
    simp only [List.map_cons, List.map_nil, List.length_cons, List.length_nil]
    rcases ho with e | e <;> rw [e] <;> simp
  · have e1 : szF (.mk f.op f.nm f.cm f.n [.mk 1 ⟨#[]⟩ 0 0 []]) = (2, 2) := by
      rw [szF_eq]; rfl
    unfold largeR
    rw [e1]; rfl
theorem parts_name {f : Fm} {d : Dm} {c : List Int} {l : List ByteArray} (h : goodC f d c = true) (h3 : ¬ f.op = 3) (h4 : ¬ f.op = 4) : checkR (.mk f.op ⟨#[97]⟩ f.cm f.n f.ks) d l = 1 := by
  obtain ⟨g, _, _, hc⟩ := good_Gd h
  refine check_bad ?_ (by rw [large_ks (f := f) (by rfl)]; exact (check_zero hc).1)
  rw [formedR_mk]
  have e : decide ((⟨#[97]⟩ : ByteArray) = ⟨#[]⟩) = false := by decide
  rw [e, decide_eq_false h3, decide_eq_false h4]
  simp
theorem parts_n {f : Fm} {d : Dm} {c : List Int} {l : List ByteArray} (h : goodC f d c = true) (h3 : ¬ f.op = 3) (h4 : ¬ f.op = 4) : checkR (.mk f.op f.nm f.cm 1 f.ks) d l = 1 := by
  obtain ⟨g, _, _, hc⟩ := good_Gd h
  refine check_bad ?_ (by rw [large_ks (f := f) (by rfl)]; exact (check_zero hc).1)
  rw [formedR_mk]
  rw [decide_eq_false h3, decide_eq_false h4]
  simp
end Go.Proofs.YtphmhelkojdlaaaDoor
namespace Go.Proofs.YtphmhelkojdlaaaDoor
open Go.RowKit
set_option maxRecDepth 10000
set_option linter.unusedSimpArgs false
set_option linter.unusedVariables false
abbrev b9_l1 (f : Fm) (op : Int) : Fm := (Fm.mk 7 ⟨#[]⟩ 0 0 ([f, (Fm.mk op ⟨#[]⟩ 7 0 [])]))
abbrev b9_l2 (f : Fm) : Fm := (Fm.mk f.op f.nm f.cm f.n [(Fm.mk 1 ⟨#[]⟩ 0 0 [])])
noncomputable abbrev b9_1 (f : Fm) (op : Int) : Id × AO := ([26], .row [.tv (.int .i64 7), .tv (.str ⟨#[]⟩), .tv (.int .i64 0), .tv (.int .i64 0), .tv (.sli 5 (([f, (Fm.mk op ⟨#[]⟩ 7 0 [])]).map encF))] false)
noncomputable abbrev b9_2 (f : Fm) : Id × AO := ([49], .row [.tv (.int .i64 f.op), .tv (.str ⟨#[97]⟩), .tv (.int .i64 f.cm), .tv (.int .i64 f.n), .tv (.sli 5 (f.ks.map encF))] false)
noncomputable abbrev b9_3 (f : Fm) : Id × AO := ([49], .row [.tv (.int .i64 f.op), .tv (.str f.nm), .tv (.int .i64 f.cm), .tv (.int .i64 f.n), .tv (.sli 5 [[.int .i64 1, .str ⟨#[]⟩, .int .i64 0, .int .i64 0, .nils]])] false)
noncomputable abbrev b9_4 (f : Fm) : Id × AO := ([54], .row [.tv (.int .i64 f.op), .tv (.str f.nm), .tv (.int .i64 f.cm), .tv (.int .i64 1), .tv (.sli 5 (f.ks.map encF))] false)
noncomputable abbrev b9_5 (d : Dm) (f : Fm) : Hp := [([1], .row ((celD d).map .tv) false), ([0], .row ((celF f).map .tv) false)]
noncomputable abbrev b9_6 (f : Fm) (op : Int) (d : Dm) : Hp := [(b9_4 f), (b9_2 f), (b9_1 f op), ([1], .row ((celD d).map .tv) false), ([0], .row ((celF f).map .tv) false)]
noncomputable abbrev b9_7 (f : Fm) (op : Int) (d : Dm) : Hp := [(b9_3 f), (b9_1 f op), ([1], .row ((celD d).map .tv) false), ([0], .row ((celF f).map .tv) false)]
noncomputable abbrev b9_8 (f : Fm) (op : Int) (d : Dm) : Hp := [(b9_1 f op), ([1], .row ((celD d).map .tv) false), ([0], .row ((celF f).map .tv) false)]
theorem l9 (f : Fm) (d : Dm) (c : (List Int)) (op : Int)  : PureCall Tryd.prog 9 [agF f, agD d, .tv (.sli 1 (c.map encI)), .tv (.int .i64 op)] (.tv (.bool true)) := by
  refine walk0 (fn := Tryd.f9) [.tmp 8] Tryd.func9 rfl (by kernel_rfl) rfl (by kernel_rfl) (by kernel_rfl) ?_
  change AT _ _ _ ⟨[(0, agF f), (1, agD d), (2, .tv (.sli 1 (c.map encI))), (3, .tv (.int .i64 op))], [], [], 0⟩
  refine at_agF 0 rfl (fun hlen => ?_)
  refine at_B [2, 3, 4, 5] [] [] [(1000000, .any), (2, .tv (.sli 1 (c.map encI))), (3, .tv (.int .i64 op)), (4, .ptr [0] 0), (5, .ptr [1] 0)] (b9_5 d f) 3 (by kernel_rfl) ?_ ?_
  · exact trivial
  refine at_B [2, 3, 4, 5, 9] [.ret (.tv (.bool true))] [PureCall Tryd.prog 11 [] (.tv (.bool true))] [(1000000, .any), (2, .tv (.sli 1 (c.map encI))), (3, .tv (.int .i64 op)), (4, .ptr [0] 0), (5, .ptr [1] 0), (9, .tv (.bool true))] (b9_5 d f) 5 (by kernel_rfl) ?_ ?_
  · exact ⟨(c11), trivial⟩
  refine at_seq ?_
  refine at_B [2, 3, 4, 5, 9, 27] [.std, .std, .ret (.tv (.bool (fewD d c ([])))), .std, .std, .std, .std, .std, .ret (.tv (.bool (goodC f d c)))] [PureCall Tryd.prog 13 [agD d, .tv (.sli 1 (c.map encI)), .tv .nils] (.tv (.bool (fewD d c ([])))), ((!(fewD d c ([]))) = false) → PureCall Tryd.prog 28 [agF f, agD d, .tv (.sli 1 (c.map encI))] (.tv (.bool (goodC f d c)))] [(1000000, .any), (2, .tv (.sli 1 (c.map encI))), (3, .tv (.int .i64 op)), (4, .ptr [0] 0), (5, .ptr [1] 0), (9, .tv (.bool true)), (27, .tv (.bool ((!(fewD d c ([]))) || (!(goodC f d c)))))] (b9_5 d f) 16 (by kernel_rfl) ?_ ?_
  · exact ⟨((c13 d c [])).arg (.cons (Le.refl _) (.cons (Le.refl _) (.cons (Le.nils 1) .nil))), fun hg0 => (c28 f d c), trivial⟩
  refine at_cond (b := ((!(fewD d c ([]))) || (!(goodC f d c)))) rfl rfl (fun hc27 => ?_) (fun hc27 => ?_)
  · have q27 := hc27
    (try simp only [brs] at q27)
    refine at_B [8] [] [] [(1000000, .any), (8, .tv (.bool true))] (b9_5 d f) 18 (by kernel_rfl) ?_ ?_
    · exact trivial
    refine at_ret ?_
    refine fin0 (.inr rfl) (.tv (.bool true)) (b9_5 d f) (.tv (.bool true)) (H2 := (b9_5 d f)) (by kernel_rfl) (by kernel_rfl) ?_
    refine Le.of_eq ?_
    rfl
  · have q27 := hc27
    (try simp only [brs] at q27)
    have hG := q27.2
    have hgd := (good_Gd hG).1
    have hnn := hgd.n
    refine at_skip ?_
    change AT _ _ _ _
    refine at_B [2, 3, 4, 5, 9, 10] [.std, .ret (.tv (.sli 1 ((namesF f []).map encStr)))] [PureCall Tryd.prog 19 [agF f] (.tv (.sli 1 ((namesF f []).map encStr)))] [(1000000, .any), (2, .tv (.sli 1 (c.map encI))), (3, .tv (.int .i64 op)), (4, .ptr [0] 0), (5, .ptr [1] 0), (9, .tv (.bool true)), (10, .tv (.sli 1 ((namesF f []).map encStr)))] (b9_5 d f) 19 (by kernel_rfl) ?_ ?_
    · exact ⟨(c19 f (by (try simp only [brs, lns] at *); omega)), trivial⟩
    refine at_seq ?_
    refine at_B [2, 3, 4, 5, 9, 10, 11] [] [] [(1000000, .any), (2, .tv (.sli 1 (c.map encI))), (3, .tv (.int .i64 op)), (4, .ptr [0] 0), (5, .ptr [1] 0), (9, .tv (.bool true)), (10, .tv (.sli 1 ((namesF f []).map encStr))), (11, .tv (.int .i64 0))] (b9_5 d f) 20 (by kernel_rfl) ?_ ?_
    · exact trivial
    refine at_block ?_
    refine at_loopR (X := Nat) 0 (fun (i : Nat) => [(1000000, .any), (2, .tv (.sli 1 (c.map encI))), (3, .tv (.int .i64 op)), (4, .ptr [0] 0), (5, .ptr [1] 0), (9, .tv (.bool true)), (10, .tv (.sli 1 ((namesF f []).map encStr))), (11, .tv (.int .i64 ((i : Nat) : Int)))]) (fun (i : Nat) => (b9_5 d f)) (fun (i : Nat) => i ≤ f.ks.length) (fun (i : Nat) => f.ks.length - i) 0 ?_ ?_ ?_
    · exact Nat.zero_le _
    · exact rn_ok [([1], [1]), ([0], [0])] [] [2, 3, 4, 5, 9, 10, 11] (trivial) (by kernel_rfl)
    · intro i hinv
      have hx1 := hinv
      refine at_seq ?_
      refine at_B [2, 3, 4, 5, 9, 10, 11, 35] [] [] [(1000000, .any), (2, .tv (.sli 1 (c.map encI))), (3, .tv (.int .i64 op)), (4, .ptr [0] 0), (5, .ptr [1] 0), (9, .tv (.bool true)), (10, .tv (.sli 1 ((namesF f []).map encStr))), (11, .tv (.int .i64 ((i : Nat) : Int))), (35, .tv (.bool (decide (((i : Nat) : Int) < (((f.ks.map encF).length : Nat) : Int)))))] (b9_5 d f) 5 (by kernel_rfl) ?_ ?_
      · exact trivial
      refine at_cond (b := (decide (((i : Nat) : Int) < (((f.ks.map encF).length : Nat) : Int)))) rfl rfl (fun hc35 => ?_) (fun hc35 => ?_)
      · have q35 := hc35
        (try simp only [brs] at q35)
        refine at_skip ?_
        change AT _ _ _ _
        refine at_seq ?_
        refine at_block ?_
        refine at_D [none, some [[0]], none, none, some [], some [[1]]] [0, 1, 0, 7, 15, 0, 0, 127, 255] [2, 3, 4, 5, 9, 10, 11, 46] [.std, .std, .std, .eq (.tv (.ptr (celF (f.ks.getD i Fm.z)))), .std, .std, .std, .ret (.tv (.int .i64 (checkR (f.ks.getD i Fm.z) d (namesF f []))))] [(0 ≤ ((i : Nat) : Int) ∧ ((i : Nat) : Int) < ((((f.ks.map encF) : List (List TV)).length : Nat) : Int)), (.tv (.ptr (rowAt (f.ks.map encF) ((i : Nat) : Int))) : AV) = .tv (.ptr (celF (f.ks.getD i Fm.z))), PureCall Tryd.prog 16 [agF (f.ks.getD i Fm.z), agD d, .tv (.sli 1 ((namesF f []).map encStr))] (.tv (.int .i64 (checkR (f.ks.getD i Fm.z) d (namesF f []))))] [(1000000, .any), (2, .tv (.sli 1 (c.map encI))), (3, .tv (.int .i64 op)), (4, .ptr [0] 0), (5, .ptr [1] 0), (9, .tv (.bool true)), (10, .tv (.sli 1 ((namesF f []).map encStr))), (11, .tv (.int .i64 ((i : Nat) : Int))), (46, .tv (.bool (!decide ((checkR (f.ks.getD i Fm.z) d (namesF f [])) = (0 : Int)))))] (b9_5 d f) 14 (by kernel_rfl) ?_ ?_
        · exact ⟨by (try simp only [lns] at *); omega, congrArg (fun c => AV.tv (.ptr c)) (row_F f.ks ((i : Nat) : Int) (by (try simp only [brs, lns] at *); omega)), (c16 (f.ks.getD i Fm.z) d (namesF f [])), trivial⟩
        refine at_cond (b := (!decide ((checkR (f.ks.getD i Fm.z) d (namesF f [])) = (0 : Int)))) rfl rfl (fun hc46 => ?_) (fun hc46 => ?_)
        · have q46 := hc46
          (try simp only [brs] at q46)
          exact absurd (parts_kid hG (getD_mem (by omega))) q46
        · have q46 := hc46
          (try simp only [brs] at q46)
          refine at_skip ?_
          change AT _ _ _ _
          refine at_Bl [2, 3, 4, 5, 9, 10, 11] [.std, .eq (.tv (.int .i64 ((i + 1 : Nat) : Int)))] [(.tv (.int .i64 (wr (((i : Nat) : Int) + 1))) : AV) = .tv (.int .i64 ((i + 1 : Nat) : Int))] [(1000000, .any), (2, .tv (.sli 1 (c.map encI))), (3, .tv (.int .i64 op)), (4, .ptr [0] 0), (5, .ptr [1] 0), (9, .tv (.bool true)), (10, .tv (.sli 1 ((namesF f []).map encStr))), (11, .tv (.int .i64 ((i + 1 : Nat) : Int)))] (b9_5 d f) 17 (by kernel_rfl) ?_ ?_
          · exact ⟨succ_av i (by (try simp only [lns] at *); omega), trivial⟩
          refine ⟨rfl, (i + 1), ?_, ?_, ?_⟩
          · (try dsimp only); omega
          · omega
          · exact rn_ok [([1], [1]), ([0], [0])] [] [2, 3, 4, 5, 9, 10, 11] (trivial) (by kernel_rfl)
      · have q35 := hc35
        (try simp only [brs] at q35)
        refine at_exit ?_
        change AT _ _ _ _
        refine at_B [2, 4, 5, 9, 10, 12] [.std, .std, .std, .std, .ret (.agg [.tv (.int .i64 7), .tv (.str ⟨#[]⟩), .tv (.int .i64 0), .tv (.int .i64 0), .tv (.sli 5 (([f, (Fm.mk op ⟨#[]⟩ 7 0 [])]).map encF))])] [PureCall Tryd.prog 29 [.tv (.int .i64 7), .tv (.sli 5 [(celF f), [.int .i64 op, .str ⟨#[]⟩, .int .i64 7, .int .i64 0, .nils]])] (.agg [.tv (.int .i64 7), .tv (.str ⟨#[]⟩), .tv (.int .i64 0), .tv (.int .i64 0), .tv (.sli 5 (([f, (Fm.mk op ⟨#[]⟩ 7 0 [])]).map encF))])] [(1000000, .any), (2, .tv (.sli 1 (c.map encI))), (4, .ptr [0] 0), (5, .ptr [1] 0), (9, .tv (.bool true)), (10, .tv (.sli 1 ((namesF f []).map encStr))), (12, .ptr [26] 0)] (b9_8 f op d) 28 (by kernel_rfl) ?_ ?_
        · exact ⟨((c29 7 [f, (Fm.mk op ⟨#[]⟩ 7 0 [])])).arg (.cons (Le.refl _) (.cons (Le.rows (.cons (TLs.of_eq (encF_eq _).symm) (.cons (.cons (TLe.refl _) (.cons (TLe.refl _) (.cons (TLe.refl _) (.cons (TLe.refl _) (.cons (TLe.nils 5) .nil))))) .nil))) .nil)), trivial⟩
        refine at_seq ?_
        refine at_B [4, 5, 9, 10, 63] [.std, .std, .std, .ret (.tv (.int .i64 (checkR (b9_l1 f op) d (namesF f [])))), .std, .std, .std, .std, .std, .std, .ret (.tv (.bool (holdP (b9_l1 f op) d c (namesF f []))))] [PureCall Tryd.prog 16 [.agg [.tv (.int .i64 7), .tv (.str ⟨#[]⟩), .tv (.int .i64 0), .tv (.int .i64 0), .tv (.sli 5 (([f, (Fm.mk op ⟨#[]⟩ 7 0 [])]).map encF))], agD d, .tv (.sli 1 ((namesF f []).map encStr))] (.tv (.int .i64 (checkR (b9_l1 f op) d (namesF f [])))), ((!decide ((checkR (b9_l1 f op) d (namesF f [])) = (1 : Int))) = false) → PureCall Tryd.prog 26 [.agg [.tv (.int .i64 7), .tv (.str ⟨#[]⟩), .tv (.int .i64 0), .tv (.int .i64 0), .tv (.sli 5 (([f, (Fm.mk op ⟨#[]⟩ 7 0 [])]).map encF))], agD d, .tv (.sli 1 (c.map encI)), .tv (.sli 1 ((namesF f []).map encStr))] (.tv (.bool (holdP (b9_l1 f op) d c (namesF f []))))] [(1000000, .any), (4, .ptr [0] 0), (5, .ptr [1] 0), (9, .tv (.bool true)), (10, .tv (.sli 1 ((namesF f []).map encStr))), (63, .tv (.bool ((!decide ((checkR (b9_l1 f op) d (namesF f [])) = (1 : Int))) || (holdP (b9_l1 f op) d c (namesF f [])))))] (b9_8 f op d) 40 (by kernel_rfl) ?_ ?_
        · exact ⟨(c16 (b9_l1 f op) d (namesF f [])), fun hg0 => (c26 (b9_l1 f op) d c (namesF f [])), trivial⟩
        refine at_cond (b := ((!decide ((checkR (b9_l1 f op) d (namesF f [])) = (1 : Int))) || (holdP (b9_l1 f op) d c (namesF f [])))) rfl rfl (fun hc63 => ?_) (fun hc63 => ?_)
        · have q63 := hc63
          (try simp only [brs] at q63)
          exact absurd q63 (by rw [beside_check hG, beside_hold hG]; decide)
        · have q63 := hc63
          (try simp only [brs] at q63)
          refine at_skip ?_
          change AT _ _ _ _
          refine at_seq ?_
          refine at_B [4, 5, 9, 10, 71] [] [] [(1000000, .any), (4, .ptr [0] 0), (5, .ptr [1] 0), (9, .tv (.bool true)), (10, .tv (.sli 1 ((namesF f []).map encStr))), (71, .tv (.bool ((decide (f.op = (3 : Int))) || (decide (f.op = (4 : Int))))))] (b9_8 f op d) 48 (by kernel_rfl) ?_ ?_
          · exact trivial
          refine at_cond (b := ((decide (f.op = (3 : Int))) || (decide (f.op = (4 : Int))))) rfl rfl (fun hc71 => ?_) (fun hc71 => ?_)
          · have q71 := hc71
            (try simp only [brs] at q71)
            refine at_B [5, 9, 10, 13] [] [] [(1000000, .any), (5, .ptr [1] 0), (9, .tv (.bool true)), (10, .tv (.sli 1 ((namesF f []).map encStr))), (13, .ptr [49] 0)] [([49], .row ((celF f).map .tv) false), (b9_1 f op), ([1], .row ((celD d).map .tv) false), ([0], .row ((celF f).map .tv) false)] 51 (by kernel_rfl) ?_ ?_
            · exact trivial
            refine at_B [5, 9, 10, 13] [] [] [(1000000, .any), (5, .ptr [1] 0), (9, .tv (.bool true)), (10, .tv (.sli 1 ((namesF f []).map encStr))), (13, .ptr [49] 0)] (b9_7 f op d) 55 (by kernel_rfl) ?_ ?_
            · exact trivial
            refine at_B [8] [.std, .std, .std, .std, .std, .ret (.tv (.int .i64 (checkR (b9_l2 f) d (namesF f []))))] [(true = true) → PureCall Tryd.prog 16 [.agg [.tv (.int .i64 f.op), .tv (.str f.nm), .tv (.int .i64 f.cm), .tv (.int .i64 f.n), .tv (.sli 5 [[.int .i64 1, .str ⟨#[]⟩, .int .i64 0, .int .i64 0, .nils]])], agD d, .tv (.sli 1 ((namesF f []).map encStr))] (.tv (.int .i64 (checkR (b9_l2 f) d (namesF f []))))] [(1000000, .any), (8, .tv (.bool (decide ((checkR (b9_l2 f) d (namesF f [])) = (1 : Int)))))] (b9_7 f op d) 64 (by kernel_rfl) ?_ ?_
            · exact ⟨fun hg0 => ((c16 (b9_l2 f) d (namesF f []))).arg (.cons (Le.agg (.cons (Le.refl _) (.cons (Le.refl _) (.cons (Le.refl _) (.cons (Le.refl _) (.cons (Le.rows (.cons (.cons (TLe.refl _) (.cons (TLe.refl _) (.cons (TLe.refl _) (.cons (TLe.refl _) (.cons (TLe.nils 5) .nil))))) .nil)) .nil)))))) (.cons (Le.refl _) (.cons (Le.refl _) .nil))), trivial⟩
            refine at_ret ?_
            refine fin0 (.inr rfl) (.tv (.bool (decide ((checkR (b9_l2 f) d (namesF f [])) = (1 : Int))))) (b9_7 f op d) (.tv (.bool (decide ((checkR (b9_l2 f) d (namesF f [])) = (1 : Int))))) (H2 := (b9_7 f op d)) (by kernel_rfl) (by kernel_rfl) ?_
            refine Le.of_eq ?_
            rw [parts_leaf q71]; rfl
          · have q71 := hc71
            (try simp only [brs] at q71)
            refine at_skip ?_
            change AT _ _ _ _
            refine at_B [4, 5, 9, 10, 14] [] [] [(1000000, .any), (4, .ptr [0] 0), (5, .ptr [1] 0), (9, .tv (.bool true)), (10, .tv (.sli 1 ((namesF f []).map encStr))), (14, .ptr [49] 0)] [([49], .row ((celF f).map .tv) false), (b9_1 f op), ([1], .row ((celD d).map .tv) false), ([0], .row ((celF f).map .tv) false)] 51 (by kernel_rfl) ?_ ?_
            · exact trivial
            refine at_B [4, 5, 9, 10, 14] [] [] [(1000000, .any), (4, .ptr [0] 0), (5, .ptr [1] 0), (9, .tv (.bool true)), (10, .tv (.sli 1 ((namesF f []).map encStr))), (14, .ptr [49] 0)] [(b9_2 f), (b9_1 f op), ([1], .row ((celD d).map .tv) false), ([0], .row ((celF f).map .tv) false)] 53 (by kernel_rfl) ?_ ?_
            · exact trivial
            refine at_B [5, 9, 10, 14, 15] [] [] [(1000000, .any), (5, .ptr [1] 0), (9, .tv (.bool true)), (10, .tv (.sli 1 ((namesF f []).map encStr))), (14, .ptr [49] 0), (15, .ptr [54] 0)] [([54], .row ((celF f).map .tv) false), (b9_2 f), (b9_1 f op), ([1], .row ((celD d).map .tv) false), ([0], .row ((celF f).map .tv) false)] 56 (by kernel_rfl) ?_ ?_
            · exact trivial
            refine at_B [5, 9, 10, 14, 15] [] [] [(1000000, .any), (5, .ptr [1] 0), (9, .tv (.bool true)), (10, .tv (.sli 1 ((namesF f []).map encStr))), (14, .ptr [49] 0), (15, .ptr [54] 0)] (b9_6 f op d) 58 (by kernel_rfl) ?_ ?_
            · exact trivial
            refine at_B [8] [.std, .std, .std, .std, .std, .ret (.tv (.int .i64 (checkR (Fm.mk f.op ⟨#[97]⟩ f.cm f.n f.ks) d (namesF f [])))), .std, .std, .std, .std, .std, .std, .ret (.tv (.int .i64 (checkR (Fm.mk f.op f.nm f.cm 1 f.ks) d (namesF f []))))] [(true = true) → PureCall Tryd.prog 16 [.agg [.tv (.int .i64 f.op), .tv (.str ⟨#[97]⟩), .tv (.int .i64 f.cm), .tv (.int .i64 f.n), .tv (.sli 5 (f.ks.map encF))], agD d, .tv (.sli 1 ((namesF f []).map encStr))] (.tv (.int .i64 (checkR (Fm.mk f.op ⟨#[97]⟩ f.cm f.n f.ks) d (namesF f [])))), ((decide ((checkR (Fm.mk f.op ⟨#[97]⟩ f.cm f.n f.ks) d (namesF f [])) = (1 : Int))) = true) → PureCall Tryd.prog 16 [.agg [.tv (.int .i64 f.op), .tv (.str f.nm), .tv (.int .i64 f.cm), .tv (.int .i64 1), .tv (.sli 5 (f.ks.map encF))], agD d, .tv (.sli 1 ((namesF f []).map encStr))] (.tv (.int .i64 (checkR (Fm.mk f.op f.nm f.cm 1 f.ks) d (namesF f []))))] [(1000000, .any), (8, .tv (.bool ((decide ((checkR (Fm.mk f.op ⟨#[97]⟩ f.cm f.n f.ks) d (namesF f [])) = (1 : Int))) && (decide ((checkR (Fm.mk f.op f.nm f.cm 1 f.ks) d (namesF f [])) = (1 : Int))))))] (b9_6 f op d) 74 (by kernel_rfl) ?_ ?_
            · exact ⟨fun hg0 => (c16 (Fm.mk f.op ⟨#[97]⟩ f.cm f.n f.ks) d (namesF f [])), fun hg0 => (c16 (Fm.mk f.op f.nm f.cm 1 f.ks) d (namesF f [])), trivial⟩
            refine at_ret ?_
            refine fin0 (.inr rfl) (.tv (.bool ((decide ((checkR (Fm.mk f.op ⟨#[97]⟩ f.cm f.n f.ks) d (namesF f [])) = (1 : Int))) && (decide ((checkR (Fm.mk f.op f.nm f.cm 1 f.ks) d (namesF f [])) = (1 : Int)))))) (b9_6 f op d) (.tv (.bool ((decide ((checkR (Fm.mk f.op ⟨#[97]⟩ f.cm f.n f.ks) d (namesF f [])) = (1 : Int))) && (decide ((checkR (Fm.mk f.op f.nm f.cm 1 f.ks) d (namesF f [])) = (1 : Int)))))) (H2 := (b9_6 f op d)) (by kernel_rfl) (by kernel_rfl) ?_
            refine Le.of_eq ?_
            rw [parts_name hG q71.1 q71.2, parts_n hG q71.1 q71.2]; rfl
end Go.Proofs.YtphmhelkojdlaaaDoor
namespace Go.Proofs.YtphmhelkojdlaaaDoor
open Go.RowKit Go.ChangeShapes Go.WideShapes Go.ChangeAt
set_option linter.unusedSimpArgs false
set_option linter.unusedVariables false
section
variable {H : Type} {enc : TypeId × Value → H} {W : World}
theorem rd_3 (fuel : Nat) : Rd enc Tryd.prog W fuel 3 (fun n : Int => [.int .i64 n]) := rd_int Tryd.underlying3
theorem rd_9 (fuel : Nat) : Rd enc Tryd.prog W fuel 9 (fun s : ByteArray => [.str s]) := rd_str Tryd.underlying9
theorem rde_24 : ∀ (fuel : Nat), Rd enc Tryd.prog W fuel 24 encF := by
  intro fuel
  induction fuel using Nat.strongRecOn with
  | _ fuel ih =>
  cases fuel with
  | zero => exact rd_zero
  | succ fuel =>
    intro cs x h
    obtain ⟨hl, hf⟩ := rd_fields Tryd.underlying24 h
    have rk : Rd enc Tryd.prog W fuel 22 (fun l : List Fm => [.sli 5 (l.map encF)]) := by
      cases fuel with
      | zero => exact rd_zero
      | succ fuel => exact rd_slice Tryd.underlying22 (by kernel_rfl) encF_len (ih fuel (by omega))
    obtain ⟨a0, r0⟩ := rd_field hf 0 3 0 1 rfl (by kernel_rfl) (rd_3 fuel)
    obtain ⟨a1, r1⟩ := rd_field hf 1 9 1 1 rfl (by kernel_rfl) (rd_9 fuel)
    obtain ⟨a2, r2⟩ := rd_field hf 2 3 2 1 rfl (by kernel_rfl) (rd_3 fuel)
    obtain ⟨a3, r3⟩ := rd_field hf 3 3 3 1 rfl (by kernel_rfl) (rd_3 fuel)
    obtain ⟨a4, r4⟩ := rd_field hf 4 22 4 1 rfl (by kernel_rfl) (rk)
    refine ⟨(Fm.mk a0 a1 a2 a3 a4), ?_⟩
    rw [encF_eq]
    exact CR.app (off := 0) (n := 1) r0 rfl (CR.app (off := 1) (n := 1) r1 rfl (CR.app (off := 2) (n := 1) r2 rfl (CR.app (off := 3) (n := 1) r3 rfl (CR.app (off := 4) (n := 1) r4 rfl (CR.fin (n := 5) (hl.trans (by kernel_rfl)))))))
theorem rd_24 (fuel : Nat) : Rd enc Tryd.prog W fuel 24 celF := rd_ext (rde_24 fuel) (fun a => ⟨a, (encF_eq a).symm⟩)
theorem rd_52 (fuel : Nat) : Rd enc Tryd.prog W fuel 52 celC := by
  cases fuel with
  | zero => exact rd_zero
  | succ fuel =>
    intro cs x h
    obtain ⟨hl, hf⟩ := rd_fields Tryd.underlying52 h
    obtain ⟨a0, r0⟩ := rd_field hf 0 9 0 1 rfl (by kernel_rfl) (rd_9 fuel)
    obtain ⟨a1, r1⟩ := rd_field hf 1 3 1 1 rfl (by kernel_rfl) (rd_3 fuel)
    obtain ⟨a2, r2⟩ := rd_field hf 2 3 2 1 rfl (by kernel_rfl) (rd_3 fuel)
    obtain ⟨a3, r3⟩ := rd_field hf 3 3 3 1 rfl (by kernel_rfl) (rd_3 fuel)
    refine ⟨(Fc.mk a0 a1 a2 a3), ?_⟩
    exact CR.app (off := 0) (n := 1) r0 rfl (CR.app (off := 1) (n := 1) r1 rfl (CR.app (off := 2) (n := 1) r2 rfl (CR.app (off := 3) (n := 1) r3 rfl (CR.fin (n := 4) (hl.trans (by kernel_rfl))))))
theorem rd_25 (fuel : Nat) : Rd enc Tryd.prog W fuel 25 (fun l : List Fc => [.sli 4 (l.map celC)]) := by
  cases fuel with
  | zero => exact rd_zero
  | succ fuel => exact rd_slice Tryd.underlying25 (by kernel_rfl) (fun _ => rfl) (rd_52 fuel)
theorem rd_27 (fuel : Nat) : Rd enc Tryd.prog W fuel 27 celD := by
  cases fuel with
  | zero => exact rd_zero
  | succ fuel =>
    intro cs x h
    obtain ⟨hl, hf⟩ := rd_fields Tryd.underlying27 h
    obtain ⟨a0, r0⟩ := rd_field hf 0 25 0 1 rfl (by kernel_rfl) (rd_25 fuel)
    refine ⟨(Dm.mk a0), ?_⟩
    exact CR.app (off := 0) (n := 1) r0 rfl (CR.fin (n := 1) (hl.trans (by kernel_rfl)))
theorem rd_29 (fuel : Nat) : Rd enc Tryd.prog W fuel 29 (fun l : List Int => [.sli 1 (l.map encI)]) := by
  cases fuel with
  | zero => exact rd_zero
  | succ fuel => exact rd_slice Tryd.underlying29 (by kernel_rfl) (fun _ => rfl) (rd_3 fuel)
end
theorem own : ownKnob Tryd.prog.godebug = none := by kernel_rfl
theorem laidOut : laidOutB Tryd.prog = true := by kernel_rfl
abbrev laidL {H : Type} : List (String × DataW H) := [("math/bits.deBruijn32tab", Rows.laid_math_bits_deBruijn32tab), ("math/bits.deBruijn64tab", Rows.laid_math_bits_deBruijn64tab), ("internal/strconv.uint64pow10", Rows.laid_internal_strconv_uint64pow10), ("strconv.ErrRange", Rows.laid_strconv_ErrRange), ("strconv.ErrSyntax", Rows.laid_strconv_ErrSyntax)]
/-- The door's own heap meets the condition. -/
theorem door_met (os : Os) (args : Array Value) : laidMetH Tryd.prog laidL ((World.doorLaid Tryd.prog 4000 os).forCall (fun _ _ => 0) ⟨#[], args, []⟩).memory :=
  laidMetH_of_parts3 (fuel := 8) (laidMet_of_run' 8 (by kernel_rfl) (by kernel_rfl)) (by kernel_rfl) (by kernel_rfl)
end Go.Proofs.YtphmhelkojdlaaaDoor
namespace Go.Proofs.YtphmhelkojdlaaaDoor
open Go.RowKit Go.ChangeShapes Go.WideShapes Go.ChangeAt
set_option linter.unusedSimpArgs false
set_option linter.unusedVariables false
theorem law9_pure (f : Fm) (d : Dm) (c : List Int) (op : Int) : PureCall Tryd.prog 9 [.agg ((celF f).map .tv), .agg ((celD d).map .tv), .tv (.sli 1 (c.map encI)), .tv (.int .i64 op)] (.tv (.bool true)) := l9 f d c op
set_option maxRecDepth 100000 in
theorem lifted9 (os : Os) (started : os.Started) (H : Type) (enc : TypeId × Value → H) :
    ReturnsInHanded {} Tryd.checked os 9 .any (fun w args => (Rows.formulaPartsSpec.pre enc Tryd.prog Tryd.f9 [] false w args ∧ laidMetH Tryd.prog laidL w) ∧ sizedMet enc Tryd.prog Tryd.f9 (OpenSpec.ofChange Rows.formulaPartsSpec) false w args) (Rows.formulaPartsSpec.post enc Tryd.prog Tryd.f9 false true false false) := by
  refine returnsInHanded_of_change_and (C := Tryd.checked) (X := fun w _ => laidMetH Tryd.prog laidL w) (fun _ _ _ hh h => h.of_heap hh) own started (by kernel_rfl) Tryd.func9
    (ChangeSpec.witness_shaped (enc := enc) (C := Tryd.checked) (os := os) (X := fun w _ => laidMetH Tryd.prog laidL w) false (World.doorLaid Tryd.prog 4000 os) #[.agg #[.int .i64 0, .string ⟨#[]⟩, .int .i64 0, .int .i64 0, .slice none 0 0], .agg #[.slice none 0 0], .slice none 0 0, .int .i64 0] 8 rfl (World.shaped_of_RefB (by kernel_rfl) (by kernel_rfl)) (by kernel_rfl) (by kernel_rfl) (by kernel_rfl) (door_met os _)) ?_
  intro W base args ds gs before hval0 hW _ _ hL _
  have hval : ∀ (j : Nat) t v, Tryd.f9.params[j]? = some t → args[j]? = some v → Value.okWide Tryd.prog W .any base t v := hval0
  have hW' := hW
  obtain ⟨p, q, hA0, hV, rfl, _, _⟩ := hW
  have hA : DataW.TrodAll enc Tryd.prog W 0 (fun _ => true) true Tryd.f9.params.toList args.toList ds p := hA0
  rw [Tryd.params9] at hA hval
  obtain ⟨v0, vs0, d0, ds0, p0, q0, hargs, rfl, rfl, h0, g0⟩ := trodAll_cons hA
  obtain ⟨v1, vs1, d1, ds1, p1, q1, rfl, rfl, rfl, h1, g1⟩ := trodAll_cons g0
  obtain ⟨v2, vs2, d2, ds2, p2, q2, rfl, rfl, rfl, h2, g2⟩ := trodAll_cons g1
  obtain ⟨v3, vs3, d3, ds3, p3, q3, rfl, rfl, rfl, h3, g3⟩ := trodAll_cons g2
  obtain ⟨rfl, rfl, rfl⟩ := trodAll_nil g3
  obtain rfl : args = #[v0, v1, v2, v3] := by cases args; simp_all
  obtain ⟨rfl, rfl⟩ := trodVars_none hV
  obtain ⟨us0, rfl, _⟩ := okWide_struct Tryd.underlying24 (hval 0 24 v0 rfl rfl)
  obtain ⟨x0, y0⟩ := arg_agg (ι := fun _ => none) rd_24 h0
  obtain ⟨us1, rfl, _⟩ := okWide_struct Tryd.underlying27 (hval 1 27 v1 rfl rfl)
  obtain ⟨x1, y1⟩ := arg_agg (ι := fun _ => none) rd_27 h1
  obtain ⟨z2, len2, cap2, rfl⟩ := okWide_slice Tryd.underlying29 (hval 2 29 v2 rfl rfl)
  obtain ⟨x2, y2⟩ := arg_one (ι := fun _ => none) rfl rd_29 h2
  obtain ⟨z3, rfl⟩ := okWide_int Tryd.underlying3 (hval 3 3 v3 rfl rfl)
  obtain ⟨x3, y3⟩ := arg_one (ι := fun _ => none) rfl rd_3 h3
  clear hA0 hval0
  simp only [List.append_nil] at hW'
  have hlt : ∀ x ∈ p0 ++ p1 ++ p2 ++ p3, x.block < W.heap.size := fun x hx => by simpa using hW'.lt x (by simpa using hx)
  refine (law_calls (P := Tryd.prog) (b := true) (law9_pure x0 x1 x2 x3) (VRs.cons y0 (VRs.cons y1 (VRs.cons y2 (VRs.cons y3 (VRs.nil _ _)))))).mono fun e W' ⟨he, hb⟩ => ?_
  subst he
  refine ⟨_, rfl, _, _, _, [], _, [], hW', trodAll_mk1 (shut_bool Tryd.underlying4 true), (trodAll_cons_mk (Below.trod laidOut (by kernel_rfl) (of_decide_eq_true (by kernel_rfl)) h0 hb (fun x hx => hlt x (by simp [hx]))) (trodAll_cons_mk (Below.trod laidOut (by kernel_rfl) (of_decide_eq_true (by kernel_rfl)) h1 hb (fun x hx => hlt x (by simp [hx]))) (trodAll_cons_mk (Below.trod laidOut (by kernel_rfl) (of_decide_eq_true (by kernel_rfl)) h2 hb (fun x hx => hlt x (by simp [hx]))) (trodAll_cons_mk (Below.trod laidOut (by kernel_rfl) (of_decide_eq_true (by kernel_rfl)) h3 hb (fun x hx => hlt x (by simp [hx]))) trodAll_mk0)))), rfl, hb.frame _, fun h => by cases h⟩
theorem proved9 : Rows.FormulaPartsSaid :=
  OpenClaim.holds_of_wide 9 Tryd.f9 rfl rfl rfl rfl rfl rfl rfl ⟨rfl, rfl, rfl, rfl, rfl⟩ rfl rfl rfl rfl rfl (by kernel_rfl) Tryd.func9 (by kernel_rfl)
    (of_decide_eq_true (by kernel_rfl)) (by unfold Func.isWrapper; first | (rw [if_pos (by decide +kernel)]; kernel_rfl) | (rw [if_neg (by decide +kernel)]; exact ⟨rfl, rfl⟩))
    (fun os started H enc _ => lifted9 os started H enc)
theorem card9 : Rows.FormulaPartsCardSaid :=
  Claim7.holds_tied_plain_at .later [] _ true (true, "4a36700912013bb2f555b7a01611f8226529d3d0a19222fa014a5d6bd73064b1") true
    proved9 (fun _ h => by cases h) (by kernel_rfl) (fun _ h => by cases h) formulaParts_row_tie rfl ⟨rfl, rfl⟩ (by kernel_rfl) rfl
    (fun f fn hf hfn => by
      obtain rfl : f = 9 := Option.some.inj ((show Tryd.prog.funcNamed "pandect/pandectlaw07.FormulaParts" = some 9 by kernel_rfl).symm.trans hf) |>.symm
      obtain rfl : fn = Tryd.f9 := (Option.some.inj (Tryd.func9.symm.trans hfn)).symm
      exact ⟨by kernel_rfl, fun j t ht => by
        rw [Tryd.params9] at ht
        have hm : t ∈ [24, 27, 29, 3] := by simpa using Array.mem_of_getElem? ht
        have hall : ([24, 27, 29, 3].all fun u => !Tryd.prog.wantsStandIn u) = true := by kernel_rfl
        exact (show Tryd.prog.wantsStandIn t = false by simpa using List.all_eq_true.1 hall t hm)⟩)
    (by kernel_rfl)
#print axioms card9
end Go.Proofs.YtphmhelkojdlaaaDoor
