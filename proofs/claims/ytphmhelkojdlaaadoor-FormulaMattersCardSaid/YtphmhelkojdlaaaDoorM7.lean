/- Part M7 of the proof. -/
import Derived.Test.YtphmhelkojdlaaaDoorRows
import Derived.LaidMore
import Derived.Stop.Joined
import Derived.Test.YtphmhelkojdlaaaDoorCards
import Derived.Test.YtphmhelkojdlaaaDoorTie
import Derived.Test.YtphmhelkojdlaaaDoorM6
namespace Go.Proofs.YtphmhelkojdlaaaDoor
open Go.RowKit
set_option linter.unusedSimpArgs false
set_option linter.unusedVariables false
theorem mx_or (a b : Int) : mx a b = a ∧ b ≤ a ∨ mx a b = b ∧ a ≤ b := by
  unfold mx
  split
  · exact .inr ⟨rfl, by omega⟩
  · exact .inl ⟨rfl, by omega⟩
theorem szFs_ok {l : List Fm} (h : ∀ k ∈ l, nF k ≤ 1000000 → (szF k).1 = (nF k : Int) ∧ 1 ≤ (szF k).2 ∧ (szF k).2 ≤ (nF k : Int)) :
    ∀ (a d : Int), 1 ≤ a → a + (nFs l : Int) ≤ 1000001 → 0 ≤ d → d ≤ 1000000 → (szFs l a d).1 = a + (nFs l : Int) ∧ d ≤ (szFs l a d).2 ∧ (szFs l a d).2 ≤ d + (nFs l : Int) := by
  induction l with
  | nil => intro a d h1 h2 h3 h4; simp only [szFs, nFs]; omega
  | cons k r ih =>
    intro a d h1 h2 h3 h4
    simp only [nFs] at h2
    have hp := nF_pos k
    obtain ⟨a1, a2, a3⟩ := h k (by simp) (by omega)
    simp only [szFs, nFs]
    have hw : wr (a + (szF k).1) = a + (szF k).1 := wr_fit _ ⟨by omega, by omega⟩
    rw [hw, a1]
    have hm := mx_or d (szF k).2
    obtain ⟨b1, b2, b3⟩ := ih (fun x hx => h x (by simp [hx])) (a + (nF k : Int)) (mx d (szF k).2) (by omega) (by omega) (by omega) (by omega)
    refine ⟨by omega, by omega, by omega⟩
theorem szF_ok : ∀ f : Fm, nF f ≤ 1000000 → (szF f).1 = (nF f : Int) ∧ 1 ≤ (szF f).2 ∧ (szF f).2 ≤ (nF f : Int) := by
  refine Fm.ind (fun f ih => ?_)
  intro hn
  rw [nF_eq] at hn ⊢
  rw [szF_eq]
  obtain ⟨a, b, c⟩ := szFs_ok ih 1 0 (by omega) (by omega) (by omega) (by omega)
  simp only
  rw [wr_fit _ ⟨by omega, by omega⟩]
  omega
/-- A formula with at most k nodes and e levels, of which every node is well-formed. -/
structure Gd (d : Dm) (k e : Int) (f : Fm) : Prop where
  n : (nF f : Int) ≤ k
  e : (szF f).2 ≤ e
  z : errF (oneR d [] true) f = 0
theorem one_weak {d : Dm} {l : List ByteArray} {f : Fm} (h : oneR d l false f = 0) : oneR d [] true f = 0 := by
  obtain ⟨h1, h2, h3⟩ := one_zero h
  refine one_0 (by rw [h1]; rfl) h2 ?_
  unfold nameE at h3 ⊢
  rw [Bool.or_eq_false_iff] at h3
  rw [h3.1]; simp
theorem errFs_all {e : Fm → Int} {l : List Fm} (h : ∀ k ∈ l, errF e k = 0) : errFs e l = 0 := by
  induction l with
  | nil => rfl
  | cons k r ih => simp only [errFs, h k (by simp), ih (fun x hx => h x (by simp [hx]))]; rfl
theorem errF_mk {e : Fm → Int} {f : Fm} (h : e f = 0) (hk : ∀ k ∈ f.ks, errF e k = 0) : errF e f = 0 := by
  rw [errF_eq, h, errFs_all hk]; rfl
theorem err_weak {d : Dm} {l : List ByteArray} : ∀ f : Fm, errF (oneR d l false) f = 0 → errF (oneR d [] true) f = 0 := by
  refine Fm.ind (fun f ih => ?_)
  intro h
  obtain ⟨h1, h2⟩ := errF_zero h
  exact errF_mk (one_weak h1) (fun k hk => ih k hk (h2 k hk))
theorem large_iff {f : Fm} (hn : nF f ≤ 1000000) : largeR f = false ↔ (nF f : Int) ≤ 200 ∧ (szF f).2 ≤ 20 := by
  have := szF_ok f hn
  unfold largeR
  rw [Bool.or_eq_false_iff, decide_eq_false_iff_not, decide_eq_false_iff_not, this.1]
  omega
theorem Gd.check {d : Dm} {k e : Int} {f : Fm} (h : Gd d k e f) (hk : k ≤ 200) (he : e ≤ 20) : checkA f d = 0 := by
  have h1 := h.n
  have h2 := h.e
  have hl : largeR f = false := (large_iff (by omega)).2 ⟨by omega, by omega⟩
  unfold checkA
  rw [hl, h.z]; rfl
theorem Gd.hold {d : Dm} {k e : Int} {f : Fm} (h : Gd d k e f) (hk : k ≤ 200) (he : e ≤ 20) {c : List Int} (hc : fitsD d c = true) (l : List ByteArray) : holdP f d c l = valF d c l f := by
  unfold holdP
  rw [h.check hk he, hc]; rfl
theorem good_Gd {f : Fm} {d : Dm} {c : List Int} (h : goodC f d c = true) : Gd d 60 16 f ∧ fitsD d c = true ∧ validD d = true ∧ checkR f d (namesF f []) = 0 := by
  unfold goodC at h
  cases hv : validD d with
  | false => rw [hv] at h; simp at h
  | true =>
    cases hf : fitsD d c with
    | false => rw [hf] at h; simp at h
    | true =>
      by_cases hc : cntF f 300 ≤ 300
      · rw [hv, hf, decide_eq_true hc] at h
        simp only [Bool.not_true, Bool.or_false, cond_false, Bool.and_eq_true, decide_eq_true_eq] at h
        obtain ⟨⟨h1, h2⟩, h3⟩ := h
        have hn := nF_le hc (by decide) (by decide)
        have hs := szF_ok f hn.1
        refine ⟨⟨by omega, h2, ?_⟩, rfl, rfl, h3⟩
        unfold checkR at h3
        cases hl : largeR f with
        | true => rw [hl] at h3; exact absurd (show (2 : Int) = 0 from h3) (by decide)
        | false => rw [hl] at h3; exact err_weak f h3
      · rw [decide_eq_false hc] at h; simp at h
theorem fitsD_valid {d : Dm} {c : List Int} (h : fitsD d c = true) : validD d = true := by
  unfold fitsD at h
  cases hv : validD d with
  | true => rfl
  | false => rw [hv] at h; cases h
/-! ### Connectives -/
theorem one_op {d : Dm} {f : Fm} (h : formedR f = true) (h3 : ¬ f.op = 3) (h4 : ¬ f.op = 4) : oneR d [] true f = 0 := by
  refine one_0 (by rw [h]; rfl) ?_ ?_
  · unfold rangeE; rw [decide_eq_false h3]; rfl
  · unfold nameE; rw [decide_eq_false h3, decide_eq_false h4]; rfl
theorem Gd.one {d : Dm} {k e : Int} {f : Fm} (h : Gd d k e f) (hk : k ≤ 1000) (he : e ≤ 1000) : Gd d (k + 1) (e + 1) (.mk 5 ⟨#[]⟩ 0 0 [f]) := by
  have hn := h.n
  have hs := szF_ok f (by omega)
  have he' := h.e
  refine ⟨?_, ?_, errF_mk (one_op (by rfl) (by show ¬ (5 : Int) = 3; decide) (by show ¬ (5 : Int) = 4; decide)) (fun x hx => ?_)⟩
  · simp only [nF, nFs]; omega
  · rw [szF_eq]
    simp only [Fm.ks, szFs]
    have := mx_or 0 (szF f).2
    rw [wr_fit _ ⟨by omega, by omega⟩]; omega
  · simp only [Fm.ks, List.mem_singleton] at hx; subst hx; exact h.z
theorem Gd.two {d : Dm} {k e k' e' o : Int} {f g : Fm} (h : Gd d k e f) (h' : Gd d k' e' g) (ho : o = 6 ∨ o = 7) (hk : k ≤ 1000) (he : e ≤ 1000) (hk' : k' ≤ 1000) (he' : e' ≤ e) : Gd d (k + k' + 1) (e + 1) (.mk o ⟨#[]⟩ 0 0 [f, g]) := by
  have hn := h.n
  have hn' := h'.n
  have hs := szF_ok f (by omega)
  have hs' := szF_ok g (by omega)
  have h1 := h.e
  have h1' := h'.e
  refine ⟨?_, ?_, errF_mk (one_op (by rcases ho with rfl | rfl <;> rfl) (by rcases ho with rfl | rfl <;> (simp only [Fm.op]; decide)) (by rcases ho with rfl | rfl <;> (simp only [Fm.op]; decide))) (fun x hx => ?_)⟩
  · simp only [nF, nFs]; omega
  · rw [szF_eq]
    simp only [Fm.ks, szFs]
    have m1 := mx_or 0 (szF f).2
    have m2 := mx_or (mx 0 (szF f).2) (szF g).2
    rw [wr_fit _ ⟨by omega, by omega⟩]; omega
  · simp only [Fm.ks, List.mem_cons, List.not_mem_nil, or_false] at hx
    rcases hx with rfl | rfl
    · exact h.z
    · exact h'.z
end Go.Proofs.YtphmhelkojdlaaaDoor
namespace Go.Proofs.YtphmhelkojdlaaaDoor
open Go.RowKit
set_option linter.unusedSimpArgs false
set_option linter.unusedVariables false
theorem TLs.of_eq {l l' : List TV} (h : l = l') : TLs l l' := h ▸ TLs.refl l
theorem check_zero {f : Fm} {d : Dm} {l : List ByteArray} (h : checkR f d l = 0) : largeR f = false ∧ errF (oneR d l false) f = 0 := by
  unfold checkR at h
  cases hl : largeR f with
  | true => rw [hl] at h; exact absurd (show (2 : Int) = 0 from h) (by decide)
  | false => rw [hl] at h; exact ⟨rfl, h⟩
end Go.Proofs.YtphmhelkojdlaaaDoor
namespace Go.Proofs.YtphmhelkojdlaaaDoor
open Go.RowKit
set_option linter.unusedSimpArgs false
set_option linter.unusedVariables false
end Go.Proofs.YtphmhelkojdlaaaDoor
namespace Go.Proofs.YtphmhelkojdlaaaDoor
open Go.RowKit
set_option linter.unusedSimpArgs false
set_option linter.unusedVariables false
theorem any_mem {l : List ByteArray} {x : ByteArray} : l.any (eqR x) = true ↔ x ∈ l := by
  rw [List.any_eq_true]
  unfold eqR
  constructor
  · rintro ⟨y, hy, h⟩
    rw [← of_decide_eq_true h]; exact hy
  · intro h
    exact ⟨x, h, decide_eq_true rfl⟩
theorem errFs_or {e : Fm → Int} {v : Int} {l : List Fm} (h : ∀ k ∈ l, errF e k = 0 ∨ errF e k = v) : errFs e l = 0 ∨ errFs e l = v := by
  induction l with
  | nil => exact .inl rfl
  | cons k r ih =>
    simp only [errFs]
    by_cases e0 : errF e k = 0
    · rw [decide_eq_true e0]; exact ih (fun x hx => h x (by simp [hx]))
    · rw [decide_eq_false e0]; exact .inr ((h k (by simp)).resolve_left e0)
theorem err_07 {d : Dm} {less L : List ByteArray} : ∀ f : Fm, errF (oneR d L false) f = 0 → errF (oneR d less false) f = 0 ∨ errF (oneR d less false) f = 7 := by
  refine Fm.ind (fun f ih => ?_)
  intro h
  obtain ⟨h1, h2⟩ := errF_zero h
  obtain ⟨a1, a2, _⟩ := one_zero h1
  have h3 : oneR d less false f = 0 ∨ oneR d less false f = 7 := by
    unfold oneR
    rw [a1, a2]
    cases nameE d less false f
    · exact .inl rfl
    · exact .inr rfl
  rw [errF_eq]
  rcases h3 with e | e
  · rw [e]; exact errFs_or (fun k hk => ih k hk (h2 k hk))
  · rw [e]; exact .inr rfl
theorem nameE_mem {d : Dm} {less : List ByteArray} {f : Fm} (h : nameE d less false f = false) (ho : f.op = 4) : f.nm ∈ less := by
  unfold nameE at h
  rw [decide_eq_true ho] at h
  simp only [Bool.or_eq_false_iff] at h
  rw [← any_mem]
  have := h.2
  cases e : List.any less (eqR f.nm) with
  | true => rfl
  | false => rw [e] at this; cases this
theorem mem_addT {f : Fm} {l : List ByteArray} {x : ByteArray} (h : x ∈ addT f l) : x ∈ l ∨ (f.op = 4 ∧ x = f.nm) := by
  unfold addT at h
  cases hc : (decide (f.op = 4) && !(List.any l (eqR f.nm))) with
  | false => rw [hc] at h; exact .inl h
  | true =>
    rw [hc] at h
    simp only [cond_true, List.mem_append, List.mem_singleton] at h
    rw [Bool.and_eq_true, decide_eq_true_eq] at hc
    rcases h with h | h
    · exact .inl h
    · exact .inr ⟨hc.1, h⟩
theorem namesFs_mem {less : List ByteArray} {ks : List Fm} (h : ∀ k ∈ ks, ∀ l x, x ∈ namesF k l → x ∈ l ∨ x ∈ less) : ∀ l x, x ∈ namesFs ks l → x ∈ l ∨ x ∈ less := by
  induction ks with
  | nil => intro l x hx; exact .inl hx
  | cons k r ih =>
    intro l x hx
    simp only [namesFs] at hx
    rcases ih (fun y hy => h y (by simp [hy])) _ x hx with h1 | h1
    · exact h k (by simp) l x h1
    · exact .inr h1
theorem namesF_mem {d : Dm} {less : List ByteArray} : ∀ f : Fm, errF (oneR d less false) f = 0 → ∀ l x, x ∈ namesF f l → x ∈ l ∨ x ∈ less := by
  refine Fm.ind (fun f ih => ?_)
  intro h l x hx
  obtain ⟨h1, h2⟩ := errF_zero h
  obtain ⟨_, _, a3⟩ := one_zero h1
  rw [namesF_eq] at hx
  rcases namesFs_mem (less := less) (fun k hk => ih k hk (h2 k hk)) _ x hx with h3 | h3
  · rcases mem_addT h3 with h4 | ⟨h4, h5⟩
    · exact .inl h4
    · rw [h5]; exact .inr (nameE_mem a3 h4)
  · exact .inr h3
theorem addT_nodup {f : Fm} {l : List ByteArray} (h : l.Nodup) : (addT f l).Nodup := by
  unfold addT
  cases hc : (decide (f.op = 4) && !(List.any l (eqR f.nm))) with
  | false => exact h
  | true =>
    rw [Bool.and_eq_true] at hc
    refine List.pairwise_append.2 ⟨h, List.pairwise_singleton _ _, fun a ha b hb => ?_⟩
    rw [List.mem_singleton] at hb
    subst hb
    intro e
    subst e
    rw [any_mem.2 ha] at hc
    exact absurd hc.2 (by decide)
theorem namesFs_nodup {ks : List Fm} (h : ∀ k ∈ ks, ∀ l : List ByteArray, l.Nodup → (namesF k l).Nodup) : ∀ l : List ByteArray, l.Nodup → (namesFs ks l).Nodup := by
  induction ks with
  | nil => intro l hl; exact hl
  | cons k r ih =>
    intro l hl
    simp only [namesFs]
    exact ih (fun x hx => h x (by simp [hx])) _ (h k (by simp) l hl)
theorem namesF_nodup : ∀ (f : Fm) (l : List ByteArray), l.Nodup → (namesF f l).Nodup := by
  refine Fm.ind (fun f ih => ?_)
  intro l hl
  rw [namesF_eq]
  exact namesFs_nodup ih _ (addT_nodup hl)
theorem less_not {L : List ByteArray} {i : Nat} (h : L.Nodup) (hi : i < L.length) : L.getD i ⟨#[]⟩ ∉ L.take i ++ L.drop (i + 1) := by
  have e : L = L.take i ++ (L.getD i ⟨#[]⟩ :: L.drop (i + 1)) := by rw [← drop_get L i ⟨#[]⟩ hi, List.take_append_drop]
  generalize L.getD i ⟨#[]⟩ = x at *
  generalize L.take i = A at *
  generalize L.drop (i + 1) = B at *
  rw [e] at h
  obtain ⟨_, h2, h3⟩ := List.pairwise_append.1 h
  rw [List.mem_append]
  rintro (h4 | h4)
  · exact h3 x h4 x (by simp) rfl
  · exact (List.pairwise_cons.1 h2).1 x h4 rfl
theorem less_check {f : Fm} {d : Dm} {c : List Int} {i : Nat} (hg : goodC f d c = true) (hi : i < (namesF f []).length) : checkR f d ((namesF f []).take i ++ (namesF f []).drop (i + 1)) = 7 := by
  obtain ⟨_, _, _, h⟩ := good_Gd hg
  obtain ⟨h1, h2⟩ := check_zero h
  unfold checkR
  rw [h1]
  refine (err_07 (less := (namesF f []).take i ++ (namesF f []).drop (i + 1)) f h2).resolve_left (fun h0 => ?_)
  have hm : (namesF f []).getD i ⟨#[]⟩ ∈ namesF f [] := getD_mem hi
  rcases namesF_mem f h0 [] _ hm with h3 | h3
  · cases h3
  · exact less_not (namesF_nodup f [] List.nodup_nil) hi h3
theorem idx_at {α : Type} (p : α → Bool) (z : α) (l : List α) : ∀ o : Nat, 0 ≤ idxF p l o → (o : Int) ≤ idxF p l o ∧ p (l.getD (idxF p l o - o).toNat z) = true := by
  induction l with
  | nil => intro o h; exact absurd h (by simp only [idxF]; decide)
  | cons x r ih =>
    intro o h
    cases hp : p x with
    | true =>
      simp only [idxF, hp, cond_true]
      refine ⟨Int.le_refl _, ?_⟩
      rw [Int.sub_self]; exact hp
    | false =>
      simp only [idxF, hp, cond_false] at h ⊢
      obtain ⟨h1, h2⟩ := ih (o + 1) h
      refine ⟨by omega, ?_⟩
      rw [show (idxF p r (o + 1) - (o : Int)).toNat = (idxF p r (o + 1) - ((o + 1 : Nat) : Int)).toNat + 1 by omega]
      exact h2
theorem named_kid {s : ByteArray} {l : List Fm} {k : Fm} (hk : k ∈ l) (h : namedF s k = true) : namedFs s l = true := by
  induction l with
  | nil => cases hk
  | cons x r ih =>
    simp only [namedFs]
    rcases List.mem_cons.1 hk with e | e
    · subst e; rw [h]; rfl
    · rw [ih e, Bool.or_true]
theorem val_same {d : Dm} {a m : List Int} {one two L : List ByteArray} {F : Fm} (hm : ∀ i, i < d.fs.length → namedF (d.fs.getD i Fc.z).nm F = true → m.getD i 0 = a.getD i 0) (ht : ∀ x ∈ L, one.any (eqR x) = two.any (eqR x)) : ∀ f : Fm, errF (oneR d L false) f = 0 → (∀ s, namedF s f = true → namedF s F = true) → valF d a one f = valF d m two f := by
  refine Fm.ind (fun f ih => ?_)
  intro h hn
  obtain ⟨h1, h2⟩ := errF_zero h
  obtain ⟨_, _, a3⟩ := one_zero h1
  have hk : ∀ k ∈ f.ks, valF d a one k = valF d m two k := fun k hk => ih k hk (h2 k hk) (fun s hs => hn s (by rw [namedF_eq, named_kid hk hs, Bool.or_true]))
  have hA : valAll d a one f.ks = valAll d m two f.ks := by
    generalize f.ks = ks at hk
    induction ks with
    | nil => rfl
    | cons k r ih2 => simp only [valAll, hk k (by simp), ih2 (fun x hx => hk x (by simp [hx]))]
  have hO : valAny d a one f.ks = valAny d m two f.ks := by
    generalize f.ks = ks at hk
    induction ks with
    | nil => rfl
    | cons k r ih2 => simp only [valAny, hk k (by simp), ih2 (fun x hx => hk x (by simp [hx]))]
  have hH : valHd d a one f.ks = valHd d m two f.ks := by
    generalize f.ks = ks at hk
    cases ks with
    | nil => rfl
    | cons k r => simp only [valHd, hk k (by simp)]
  rw [valF_eq d a one f, valF_eq d m two f, hA, hO, hH]
  by_cases h3 : f.op = 3
  · obtain ⟨i1, i2⟩ := val_ix a3 (decide_eq_true h3)
    obtain ⟨_, i3⟩ := idx_at (fcN f.nm) Fc.z d.fs 0 i1
    have i4 : (d.fs.getD (idxF (fcN f.nm) d.fs 0).toNat Fc.z).nm = f.nm := by
      have := of_decide_eq_true i3
      simpa using this
    rw [hm _ (by omega) (by rw [i4]; exact hn _ (by rw [namedF_eq, decide_eq_true h3, decide_eq_true rfl]; rfl))]
    rw [h3]; rfl
  · by_cases h4 : f.op = 4
    · rw [ht _ (nameE_mem a3 h4), h4]; rfl
    · rw [decide_eq_false h3, decide_eq_false h4]; rfl
/-- A case: the first j places that the formula names are of a, the others of b. -/
def MxI (f : Fm) (d : Dm) (a b : List Int) (j : Nat) (m : List Int) : Prop := m.length = b.length ∧ ∀ i, m.getD i 0 = bif decide (i < j) && namedF (d.fs.getD i Fc.z).nm f then a.getD i 0 else b.getD i 0
theorem mx_start (f : Fm) (d : Dm) (a b : List Int) : MxI f d a b 0 b := ⟨rfl, fun i => rfl⟩
theorem mx_t {f : Fm} {d : Dm} {a b m : List Int} {j : Nat} (h : MxI f d a b j m) (hj : j < b.length) (hn : namedF (d.fs.getD j Fc.z).nm f = true) : MxI f d a b (j + 1) (m.set j (a.getD j 0)) := by
  obtain ⟨h1, h2⟩ := h
  refine ⟨by rw [List.length_set]; exact h1, fun i => ?_⟩
  by_cases e : i = j
  · subst e
    rw [hn, decide_eq_true (show i < i + 1 by omega)]
    rw [List.getD_eq_getElem?_getD, List.getElem?_set_self (by omega)]; rfl
  · rw [List.getD_eq_getElem?_getD, List.getElem?_set_ne (by omega), ← List.getD_eq_getElem?_getD, h2]
    rw [show decide (i < j + 1) = decide (i < j) from decide_eq_decide.2 (by omega)]
theorem mx_f {f : Fm} {d : Dm} {a b m : List Int} {j : Nat} (h : MxI f d a b j m) (hn : namedF (d.fs.getD j Fc.z).nm f = false) : MxI f d a b (j + 1) m := by
  obtain ⟨h1, h2⟩ := h
  refine ⟨h1, fun i => ?_⟩
  by_cases e : i = j
  · subst e
    rw [h2, hn, Bool.and_false, Bool.and_false]
  · rw [h2, show decide (i < j + 1) = decide (i < j) from decide_eq_decide.2 (by omega)]
theorem fits_mix {f : Fm} {d : Dm} {a b m : List Int} {j : Nat} (ha : fitsD d a = true) (hb : fitsD d b = true) (h : MxI f d a b j m) : fitsD d m = true := by
  have l1 := fitsD_len ha
  have l2 := fitsD_len hb
  have hv := fitsD_valid ha
  obtain ⟨h1, h2⟩ := h
  unfold fitsD at ha hb ⊢
  rw [hv, decide_eq_true (by omega)] at ha hb ⊢
  simp only [Bool.not_true, Bool.or_false, cond_false, List.all_eq_true] at ha hb ⊢
  intro i hi
  have a1 := ha i hi
  have b1 := hb i hi
  unfold outC at a1 b1 ⊢
  rw [h2]
  cases decide (i < j) && namedF (d.fs.getD i Fc.z).nm f
  · exact b1
  · exact a1
theorem few_clen {d : Dm} {c : List Int} {l : List ByteArray} (h : fewD d c l = true) : c.length ≤ 60 := by
  unfold fewD at h
  cases ha : l.any longS with
  | true => rw [ha] at h; cases h
  | false =>
    rw [ha] at h
    simp only [cond_false, Bool.and_eq_true, decide_eq_true_eq] at h
    omega
theorem hold_mix {f : Fm} {d : Dm} {a b m : List Int} {one two : List ByteArray} (hg : goodC f d a = true) (hb : fitsD d b = true) (h : MxI f d a b d.fs.length m) (ht : ∀ j, j < (namesF f []).length → one.any (eqR ((namesF f []).getD j ⟨#[]⟩)) = two.any (eqR ((namesF f []).getD j ⟨#[]⟩))) : holdP f d a one = holdP f d m two := by
  obtain ⟨_, f2, _, f4⟩ := good_Gd hg
  obtain ⟨_, x2⟩ := check_zero f4
  have h3 := fits_mix f2 hb h
  unfold holdP
  rw [f2, h3]
  congr 1
  refine val_same (F := f) (L := namesF f []) (fun i hi hn => ?_) (fun x hx => ?_) f x2 (fun s hs => hs)
  · rw [h.2, hn, decide_eq_true hi]; rfl
  · obtain ⟨j, hj, rfl⟩ := List.getElem_of_mem hx
    have := ht j hj
    rwa [List.getD_eq_getElem?_getD, List.getElem?_eq_getElem hj] at this
end Go.Proofs.YtphmhelkojdlaaaDoor
namespace Go.Proofs.YtphmhelkojdlaaaDoor
open Go.RowKit
set_option maxRecDepth 10000
set_option linter.unusedSimpArgs false
set_option linter.unusedVariables false
noncomputable abbrev b7_1 (f : Fm) (i : Nat) : Id × AO := ([13, 34], .row (flat encStr (((namesF f []).take i) ++ ((namesF f []).drop (i + 1)))) true)
noncomputable abbrev b7_2 (m : (List Int)) (d : Dm) (f : Fm) : Hp := [([37], .row (flat encI m) false), ([1], .row ((celD d).map .tv) false), ([0], .row ((celF f).map .tv) false)]
noncomputable abbrev b7_3 (d : Dm) (f : Fm) : Hp := [([1], .row ((celD d).map .tv) false), ([0], .row ((celF f).map .tv) false)]
noncomputable abbrev b7_4 (f : Fm) (i : Nat) (d : Dm) : Hp := [(b7_1 f i), ([1], .row ((celD d).map .tv) false), ([0], .row ((celF f).map .tv) false)]
noncomputable abbrev b7_5 (f : Fm) (i : Nat) (d : Dm) : Hp := [([13, 34], .row (flat encStr (((namesF f []).take i) ++ ((namesF f []).drop (i + 1)))) false), ([1], .row ((celD d).map .tv) false), ([0], .row ((celF f).map .tv) false)]
theorem l7 (f : Fm) (d : Dm) (a : (List Int)) (b : (List Int)) (l : (List ByteArray)) (p : (List ByteArray))  : PureCall Tryd.prog 7 [agF f, agD d, .tv (.sli 1 (a.map encI)), .tv (.sli 1 (b.map encI)), .tv (.sli 1 (l.map encStr)), .tv (.sli 1 (p.map encStr))] (.tv (.bool true)) := by
  refine walk0 (fn := Tryd.f7) [.tmp 12] Tryd.func7 rfl (by kernel_rfl) rfl (by kernel_rfl) (by kernel_rfl) ?_
  change AT _ _ _ ⟨[(0, agF f), (1, agD d), (2, .tv (.sli 1 (a.map encI))), (3, .tv (.sli 1 (b.map encI))), (4, .tv (.sli 1 (l.map encStr))), (5, .tv (.sli 1 (p.map encStr)))], [], [], 0⟩
  refine at_agD 1 rfl (fun hlen => ?_)
  refine at_B [2, 3, 4, 5, 6, 7] [] [] [(1000000, .any), (2, .tv (.sli 1 (a.map encI))), (3, .tv (.sli 1 (b.map encI))), (4, .tv (.sli 1 (l.map encStr))), (5, .tv (.sli 1 (p.map encStr))), (6, .ptr [0] 0), (7, .ptr [1] 0)] (b7_3 d f) 3 (by kernel_rfl) ?_ ?_
  · exact trivial
  refine at_B [2, 3, 4, 5, 6, 7, 13] [.ret (.tv (.bool true))] [PureCall Tryd.prog 11 [] (.tv (.bool true))] [(1000000, .any), (2, .tv (.sli 1 (a.map encI))), (3, .tv (.sli 1 (b.map encI))), (4, .tv (.sli 1 (l.map encStr))), (5, .tv (.sli 1 (p.map encStr))), (6, .ptr [0] 0), (7, .ptr [1] 0), (13, .tv (.bool true))] (b7_3 d f) 5 (by kernel_rfl) ?_ ?_
  · exact ⟨(c11), trivial⟩
  refine at_seq ?_
  refine at_B [2, 3, 4, 5, 6, 7, 13, 44] [.std, .std, .std, .ret (.tv (.bool (fewD d a l))), .std, .std, .std, .std, .std, .ret (.tv (.bool (fewD d b p))), .std, .std, .std, .std, .std, .std, .ret (.tv (.bool (goodC f d a))), .std, .std, .std, .std, .std, .ret (.tv (.bool (fitsD d b)))] [PureCall Tryd.prog 13 [agD d, .tv (.sli 1 (a.map encI)), .tv (.sli 1 (l.map encStr))] (.tv (.bool (fewD d a l))), ((!(fewD d a l)) = false) → PureCall Tryd.prog 13 [agD d, .tv (.sli 1 (b.map encI)), .tv (.sli 1 (p.map encStr))] (.tv (.bool (fewD d b p))), (((!(fewD d a l)) || (!(fewD d b p))) = false) → PureCall Tryd.prog 28 [agF f, agD d, .tv (.sli 1 (a.map encI))] (.tv (.bool (goodC f d a))), ((((!(fewD d a l)) || (!(fewD d b p))) || (!(goodC f d a))) = false) → PureCall Tryd.prog 30 [agD d, .tv (.sli 1 (b.map encI))] (.tv (.bool (fitsD d b)))] [(1000000, .any), (2, .tv (.sli 1 (a.map encI))), (3, .tv (.sli 1 (b.map encI))), (4, .tv (.sli 1 (l.map encStr))), (5, .tv (.sli 1 (p.map encStr))), (6, .ptr [0] 0), (7, .ptr [1] 0), (13, .tv (.bool true)), (44, .tv (.bool ((((!(fewD d a l)) || (!(fewD d b p))) || (!(goodC f d a))) || (!(fitsD d b)))))] (b7_3 d f) 30 (by kernel_rfl) ?_ ?_
  · exact ⟨(c13 d a l), fun hg0 => (c13 d b p), fun hg0 => (c28 f d a), fun hg0 => (c30 d b), trivial⟩
  refine at_cond (b := ((((!(fewD d a l)) || (!(fewD d b p))) || (!(goodC f d a))) || (!(fitsD d b)))) rfl rfl (fun hc44 => ?_) (fun hc44 => ?_)
  · have q44 := hc44
    (try simp only [brs] at q44)
    refine at_B [12] [] [] [(1000000, .any), (12, .tv (.bool true))] (b7_3 d f) 32 (by kernel_rfl) ?_ ?_
    · exact trivial
    refine at_ret ?_
    refine fin0 (.inr rfl) (.tv (.bool true)) (b7_3 d f) (.tv (.bool true)) (H2 := (b7_3 d f)) (by kernel_rfl) (by kernel_rfl) ?_
    refine Le.of_eq ?_
    first | rfl | (simp only [*])
  · have q44 := hc44
    (try simp only [brs] at q44)
    have hG := (good_Gd q44.1.2)
    have hnf := hG.1.n
    have hfa := fitsD_len hG.2.1
    have hfb := fitsD_len q44.2
    have hbl2 := few_clen q44.1.1.2
    have hnl := namesF_len f []
    simp only [List.length_nil] at hnl
    refine at_skip ?_
    change AT _ _ _ _
    refine at_B [2, 3, 4, 5, 6, 7, 13, 14] [.std, .ret (.tv (.sli 1 ((namesF f []).map encStr)))] [PureCall Tryd.prog 19 [agF f] (.tv (.sli 1 ((namesF f []).map encStr)))] [(1000000, .any), (2, .tv (.sli 1 (a.map encI))), (3, .tv (.sli 1 (b.map encI))), (4, .tv (.sli 1 (l.map encStr))), (5, .tv (.sli 1 (p.map encStr))), (6, .ptr [0] 0), (7, .ptr [1] 0), (13, .tv (.bool true)), (14, .tv (.sli 1 ((namesF f []).map encStr)))] (b7_3 d f) 33 (by kernel_rfl) ?_ ?_
    · exact ⟨(c19 f (by (try simp only [brs, lns] at *); omega)), trivial⟩
    refine at_seq ?_
    refine at_B [2, 3, 4, 5, 6, 7, 13, 14, 15] [] [] [(1000000, .any), (2, .tv (.sli 1 (a.map encI))), (3, .tv (.sli 1 (b.map encI))), (4, .tv (.sli 1 (l.map encStr))), (5, .tv (.sli 1 (p.map encStr))), (6, .ptr [0] 0), (7, .ptr [1] 0), (13, .tv (.bool true)), (14, .tv (.sli 1 ((namesF f []).map encStr))), (15, .tv (.int .i64 0))] (b7_3 d f) 34 (by kernel_rfl) ?_ ?_
    · exact trivial
    refine at_block ?_
    refine at_loopR (X := Nat) 0 (fun (i : Nat) => [(1000000, .any), (2, .tv (.sli 1 (a.map encI))), (3, .tv (.sli 1 (b.map encI))), (4, .tv (.sli 1 (l.map encStr))), (5, .tv (.sli 1 (p.map encStr))), (6, .ptr [0] 0), (7, .ptr [1] 0), (13, .tv (.bool true)), (14, .tv (.sli 1 ((namesF f []).map encStr))), (15, .tv (.int .i64 ((i : Nat) : Int)))]) (fun (i : Nat) => (b7_3 d f)) (fun (i : Nat) => i ≤ (namesF f []).length ∧ ∀ j, j < i → l.any (eqR ((namesF f []).getD j ⟨#[]⟩)) = p.any (eqR ((namesF f []).getD j ⟨#[]⟩))) (fun (i : Nat) => (namesF f []).length - i) 0 ?_ ?_ ?_
    · exact ⟨Nat.zero_le _, fun j hj => absurd hj (Nat.not_lt_zero _)⟩
    · exact rn_ok [([1], [1]), ([0], [0])] [] [2, 3, 4, 5, 6, 7, 13, 14, 15] (trivial) (by kernel_rfl)
    · intro i hinv
      obtain ⟨hx1, hx2⟩ := hinv
      have hlt : (List.take i (namesF f [])).length ≤ i := List.length_take_le _ _
      have hld : (List.drop (i + 1) (namesF f [])).length ≤ (namesF f []).length := by simp
      refine at_seq ?_
      refine at_B [2, 3, 4, 5, 6, 7, 13, 14, 15, 51] [] [] [(1000000, .any), (2, .tv (.sli 1 (a.map encI))), (3, .tv (.sli 1 (b.map encI))), (4, .tv (.sli 1 (l.map encStr))), (5, .tv (.sli 1 (p.map encStr))), (6, .ptr [0] 0), (7, .ptr [1] 0), (13, .tv (.bool true)), (14, .tv (.sli 1 ((namesF f []).map encStr))), (15, .tv (.int .i64 ((i : Nat) : Int))), (51, .tv (.bool (decide (((i : Nat) : Int) < ((((namesF f []).map encStr).length : Nat) : Int)))))] (b7_3 d f) 4 (by kernel_rfl) ?_ ?_
      · exact trivial
      refine at_cond (b := (decide (((i : Nat) : Int) < ((((namesF f []).map encStr).length : Nat) : Int)))) rfl rfl (fun hc51 => ?_) (fun hc51 => ?_)
      · have q51 := hc51
        (try simp only [brs] at q51)
        refine at_skip ?_
        change AT _ _ _ _
        refine at_seq ?_
        refine at_block ?_
        refine at_D [] [0, 0, 0, 6, 15, 0, 0, 64, 224, 511, 1023] [2, 3, 4, 5, 6, 7, 13, 14, 15, 16] [.std, .std, .std, .eq (.tv (.sli 1 (((namesF f []).take i).map encStr))), .eff (.sl [8, 34] 1 0 ((namesF f []).take i).length) (.row (flat encStr ((namesF f []).take i)) false), .std, .std, .eq (.tv (.int .i64 ((i + 1 : Nat) : Int))), .eq (.tv (.sli 1 (((namesF f []).drop (i + 1)).map encStr))), .eff (.sl [13, 34] 1 0 (((namesF f []).take i) ++ ((namesF f []).drop (i + 1))).length) (.row (flat encStr (((namesF f []).take i) ++ ((namesF f []).drop (i + 1)))) false)] [(0 ≤ (0 : Int) ∧ (0 : Int) ≤ ((i : Nat) : Int) ∧ ((i : Nat) : Int) ≤ ((((namesF f []).map encStr).length : Nat) : Int)), (.tv (.sli 1 ((((namesF f []).map encStr).take (((i : Nat) : Int)).toNat).drop ((0 : Int)).toNat)) : AV) = .tv (.sli 1 (((namesF f []).take i).map encStr)), (1 = 1 ∧ 0 = 0 ∧ ([] : List AV).length = 0 * 1 ∧ 0 + (((namesF f []).take i).map encStr).length ≤ 9223372036854775807 ∧ (0 + (((namesF f []).take i).map encStr).length) * 16 ≤ 140737488355328), (.sl [8, 34] 1 0 (0 + (((namesF f []).take i).map encStr).length) : AV) = .sl [8, 34] 1 0 ((namesF f []).take i).length, (.row (([] : List AV) ++ (List.map AV.tv (List.flatten (((namesF f []).take i).map encStr)))) false : AO) = .row (flat encStr ((namesF f []).take i)) false, (.tv (.int .i64 (wr (((i : Nat) : Int) + 1))) : AV) = .tv (.int .i64 ((i + 1 : Nat) : Int)), (0 ≤ ((i + 1 : Nat) : Int) ∧ ((i + 1 : Nat) : Int) ≤ ((((namesF f []).map encStr).length : Nat) : Int) ∧ ((((namesF f []).map encStr).length : Nat) : Int) ≤ ((((namesF f []).map encStr).length : Nat) : Int)), (.tv (.sli 1 ((((namesF f []).map encStr).take (((((namesF f []).map encStr).length : Nat) : Int)).toNat).drop (((i + 1 : Nat) : Int)).toNat)) : AV) = .tv (.sli 1 (((namesF f []).drop (i + 1)).map encStr)), (1 = 1 ∧ 0 = 0 ∧ (flat encStr ((namesF f []).take i)).length = ((namesF f []).take i).length * 1 ∧ ((namesF f []).take i).length + (((namesF f []).drop (i + 1)).map encStr).length ≤ 9223372036854775807 ∧ (((namesF f []).take i).length + (((namesF f []).drop (i + 1)).map encStr).length) * 16 ≤ 140737488355328), (.sl [13, 34] 1 0 (((namesF f []).take i).length + (((namesF f []).drop (i + 1)).map encStr).length) : AV) = .sl [13, 34] 1 0 (((namesF f []).take i) ++ ((namesF f []).drop (i + 1))).length, (.row ((flat encStr ((namesF f []).take i)) ++ (List.map AV.tv (List.flatten (((namesF f []).drop (i + 1)).map encStr)))) false : AO) = .row (flat encStr (((namesF f []).take i) ++ ((namesF f []).drop (i + 1)))) false] [(1000000, .any), (2, .tv (.sli 1 (a.map encI))), (3, .tv (.sli 1 (b.map encI))), (4, .tv (.sli 1 (l.map encStr))), (5, .tv (.sli 1 (p.map encStr))), (6, .ptr [0] 0), (7, .ptr [1] 0), (13, .tv (.bool true)), (14, .tv (.sli 1 ((namesF f []).map encStr))), (15, .tv (.int .i64 ((i : Nat) : Int))), (16, .sl [13, 34] 1 0 (((namesF f []).take i) ++ ((namesF f []).drop (i + 1))).length)] (b7_5 f i d) 15 (by kernel_rfl) ?_ ?_
        · exact ⟨by (try simp only [lns] at *); omega, by simp [List.map_take, List.map_drop, List.take_of_length_le], ⟨rfl, rfl, rfl, by (try simp only [brs, lns] at *); omega, by (try simp only [brs, lns] at *); omega⟩, by simp, congrArg (AO.row · false) (flat_mk (rfl)), succ_av i (by (try simp only [lns] at *); omega), by (try simp only [lns] at *); omega, by simp [List.map_take, List.map_drop, List.take_of_length_le], ⟨rfl, rfl, flat_len (sz := 1) (fun _ => rfl) _, by (try simp only [brs, lns] at *); omega, by (try simp only [brs, lns] at *); omega⟩, by simp, congrArg (AO.row · false) (flat_app (rfl)), trivial⟩
        refine at_seq ?_
        refine at_B [2, 3, 4, 5, 6, 7, 13, 14, 15, 68] [.std, .std, .std, .frz [agF f, agD d, .tv (.sli 1 ((((namesF f []).take i) ++ ((namesF f []).drop (i + 1))).map encStr))] (b7_4 f i d) (.tv (.int .i64 (checkR f d (((namesF f []).take i) ++ ((namesF f []).drop (i + 1))))))] [frzs [agF f, agD d, .sl [13, 34] 1 0 (((namesF f []).take i) ++ ((namesF f []).drop (i + 1))).length] (b7_5 f i d) = some ([agF f, agD d, .tv (.sli 1 ((((namesF f []).take i) ++ ((namesF f []).drop (i + 1))).map encStr))], (b7_4 f i d)), PureCall Tryd.prog 16 [agF f, agD d, .tv (.sli 1 ((((namesF f []).take i) ++ ((namesF f []).drop (i + 1))).map encStr))] (.tv (.int .i64 (checkR f d (((namesF f []).take i) ++ ((namesF f []).drop (i + 1))))))] [(1000000, .any), (2, .tv (.sli 1 (a.map encI))), (3, .tv (.sli 1 (b.map encI))), (4, .tv (.sli 1 (l.map encStr))), (5, .tv (.sli 1 (p.map encStr))), (6, .ptr [0] 0), (7, .ptr [1] 0), (13, .tv (.bool true)), (14, .tv (.sli 1 ((namesF f []).map encStr))), (15, .tv (.int .i64 ((i : Nat) : Int))), (68, .tv (.bool (!decide ((checkR f d (((namesF f []).take i) ++ ((namesF f []).drop (i + 1)))) = (7 : Int)))))] (b7_4 f i d) 20 (by kernel_rfl) ?_ ?_
        · exact ⟨frzs_to (by kernel_rfl) (frzs_cons (frzV_agg) (frzs_cons (frzV_agg) (frzs_cons (frz_flat2 (enc := encStr) (l := (((namesF f []).take i) ++ ((namesF f []).drop (i + 1)))) (sz := 1) rfl (fun _ => rfl) (by decide) (by first | rfl | omega | (simp only [lns]; done) | (simp only [lns]; omega))) (frzs_nil)))), (c16 f d (((namesF f []).take i) ++ ((namesF f []).drop (i + 1)))), trivial⟩
        refine at_cond (b := (!decide ((checkR f d (((namesF f []).take i) ++ ((namesF f []).drop (i + 1)))) = (7 : Int)))) rfl rfl (fun hc68 => ?_) (fun hc68 => ?_)
        · have q68 := hc68
          (try simp only [brs] at q68)
          exact absurd (less_check q44.1.2 (by omega)) q68
        · have q68 := hc68
          (try simp only [brs] at q68)
          refine at_skip ?_
          change AT _ _ _ _
          refine at_D [none, none, none, none, some [], none, none, none, none, none, some []] [0, 0, 0, 6, 14, 31, 0, 0, 0, 384, 896, 2047, 4095] [2, 3, 4, 5, 6, 7, 13, 14, 15, 81] [.std, .std, .std, .eq (.tv (.ptr [.str ((namesF f []).getD i ByteArray.empty)])), .std, .ret (.tv (.bool (List.any l (eqR ((namesF f []).getD i ByteArray.empty))))), .std, .std, .std, .eq (.tv (.ptr [.str ((namesF f []).getD i ByteArray.empty)])), .std, .ret (.tv (.bool (List.any p (eqR ((namesF f []).getD i ByteArray.empty)))))] [(0 ≤ ((i : Nat) : Int) ∧ ((i : Nat) : Int) < (((((namesF f []).map encStr) : List (List TV)).length : Nat) : Int)), (.tv (.ptr (rowAt ((namesF f []).map encStr) ((i : Nat) : Int))) : AV) = .tv (.ptr [.str ((namesF f []).getD i ByteArray.empty)]), PureCall Tryd.prog 32 [.tv (.sli 1 (l.map encStr)), .tv (.str ((namesF f []).getD i ByteArray.empty))] (.tv (.bool (List.any l (eqR ((namesF f []).getD i ByteArray.empty))))), (0 ≤ ((i : Nat) : Int) ∧ ((i : Nat) : Int) < (((((namesF f []).map encStr) : List (List TV)).length : Nat) : Int)), (.tv (.ptr (rowAt ((namesF f []).map encStr) ((i : Nat) : Int))) : AV) = .tv (.ptr [.str ((namesF f []).getD i ByteArray.empty)]), PureCall Tryd.prog 32 [.tv (.sli 1 (p.map encStr)), .tv (.str ((namesF f []).getD i ByteArray.empty))] (.tv (.bool (List.any p (eqR ((namesF f []).getD i ByteArray.empty)))))] [(1000000, .any), (2, .tv (.sli 1 (a.map encI))), (3, .tv (.sli 1 (b.map encI))), (4, .tv (.sli 1 (l.map encStr))), (5, .tv (.sli 1 (p.map encStr))), (6, .ptr [0] 0), (7, .ptr [1] 0), (13, .tv (.bool true)), (14, .tv (.sli 1 ((namesF f []).map encStr))), (15, .tv (.int .i64 ((i : Nat) : Int))), (81, .tv (.bool (!((List.any l (eqR ((namesF f []).getD i ByteArray.empty))) == (List.any p (eqR ((namesF f []).getD i ByteArray.empty)))))))] (b7_4 f i d) 33 (by kernel_rfl) ?_ ?_
          · exact ⟨by (try simp only [lns] at *); omega, congrArg (fun c => AV.tv (.ptr c)) (row_enc encStr (namesF f []) ((i : Nat) : Int) ByteArray.empty (by (try simp only [brs, lns] at *); omega)), (c32 l ((namesF f []).getD i ByteArray.empty)), by (try simp only [lns] at *); omega, congrArg (fun c => AV.tv (.ptr c)) (row_enc encStr (namesF f []) ((i : Nat) : Int) ByteArray.empty (by (try simp only [brs, lns] at *); omega)), (c32 p ((namesF f []).getD i ByteArray.empty)), trivial⟩
          refine at_cond (b := (!((List.any l (eqR ((namesF f []).getD i ByteArray.empty))) == (List.any p (eqR ((namesF f []).getD i ByteArray.empty)))))) rfl rfl (fun hc81 => ?_) (fun hc81 => ?_)
          · have q81 := hc81
            (try simp only [brs] at q81)
            refine at_B [12] [] [] [(1000000, .any), (12, .tv (.bool true))] (b7_4 f i d) 35 (by kernel_rfl) ?_ ?_
            · exact trivial
            refine at_ret ?_
            refine fin0 (.inr rfl) (.tv (.bool true)) (b7_4 f i d) (.tv (.bool true)) (H2 := (b7_4 f i d)) (by kernel_rfl) (by kernel_rfl) ?_
            refine Le.of_eq ?_
            first | rfl | (simp only [*])
          · have q81 := hc81
            (try simp only [brs] at q81)
            refine at_skip ?_
            change AT _ _ _ _
            refine at_Bl [2, 3, 4, 5, 6, 7, 13, 14, 15] [.std, .eq (.tv (.int .i64 ((i + 1 : Nat) : Int)))] [(.tv (.int .i64 (wr (((i : Nat) : Int) + 1))) : AV) = .tv (.int .i64 ((i + 1 : Nat) : Int))] [(1000000, .any), (2, .tv (.sli 1 (a.map encI))), (3, .tv (.sli 1 (b.map encI))), (4, .tv (.sli 1 (l.map encStr))), (5, .tv (.sli 1 (p.map encStr))), (6, .ptr [0] 0), (7, .ptr [1] 0), (13, .tv (.bool true)), (14, .tv (.sli 1 ((namesF f []).map encStr))), (15, .tv (.int .i64 ((i + 1 : Nat) : Int)))] (b7_4 f i d) 36 (by kernel_rfl) ?_ ?_
            · exact ⟨succ_av i (by (try simp only [lns] at *); omega), trivial⟩
            refine ⟨rfl, (i + 1), ?_, ?_, ?_⟩
            · (try dsimp only); omega
            · exact ⟨by omega, fun j hj => by rcases Nat.lt_succ_iff_lt_or_eq.1 hj with h | rfl <;> first | exact hx2 j h | exact eq_of_beq q81 | exact q81⟩
            · exact rn_ok [([1], [1]), ([0], [0])] [[13, 34]] [2, 3, 4, 5, 6, 7, 13, 14, 15] (⟨clO_flat _ _ _, trivial⟩) (by kernel_rfl)
      · have q51 := hc51
        (try simp only [brs] at q51)
        refine at_exit ?_
        change AT _ _ _ _
        refine at_B [2, 4, 5, 6, 7, 13, 17] [.std, .std, .eff (.sl [37] 1 0 b.length) (.row (flat encI b) false)] [(1 = 1 ∧ 0 = 0 ∧ ([] : List AV).length = 0 * 1 ∧ 0 + (b.map encI).length ≤ 9223372036854775807 ∧ (0 + (b.map encI).length) * 8 ≤ 140737488355328), (.sl [37] 1 0 (0 + (b.map encI).length) : AV) = .sl [37] 1 0 b.length, (.row (([] : List AV) ++ (List.map AV.tv (List.flatten (b.map encI)))) false : AO) = .row (flat encI b) false] [(1000000, .any), (2, .tv (.sli 1 (a.map encI))), (4, .tv (.sli 1 (l.map encStr))), (5, .tv (.sli 1 (p.map encStr))), (6, .ptr [0] 0), (7, .ptr [1] 0), (13, .tv (.bool true)), (17, .sl [37] 1 0 b.length)] [([37], .row (flat encI b) false), ([1], .row ((celD d).map .tv) false), ([0], .row ((celF f).map .tv) false)] 39 (by kernel_rfl) ?_ ?_
        · exact ⟨⟨rfl, rfl, rfl, by (try simp only [brs, lns] at *); omega, by (try simp only [brs, lns] at *); omega⟩, by simp, congrArg (AO.row · false) (flat_mk (rfl)), trivial⟩
        refine at_seq ?_
        refine at_B [2, 4, 5, 6, 7, 13, 17, 18] [] [] [(1000000, .any), (2, .tv (.sli 1 (a.map encI))), (4, .tv (.sli 1 (l.map encStr))), (5, .tv (.sli 1 (p.map encStr))), (6, .ptr [0] 0), (7, .ptr [1] 0), (13, .tv (.bool true)), (17, .sl [37] 1 0 b.length), (18, .tv (.int .i64 0))] [([37], .row (flat encI b) false), ([1], .row ((celD d).map .tv) false), ([0], .row ((celF f).map .tv) false)] 40 (by kernel_rfl) ?_ ?_
        · exact trivial
        refine at_block ?_
        refine at_loopR (X := Nat × (List Int)) 0 (fun ((j, m) : Nat × (List Int)) => [(1000000, .any), (2, .tv (.sli 1 (a.map encI))), (4, .tv (.sli 1 (l.map encStr))), (5, .tv (.sli 1 (p.map encStr))), (6, .ptr [0] 0), (7, .ptr [1] 0), (13, .tv (.bool true)), (17, .sl [37] 1 0 b.length), (18, .tv (.int .i64 ((j : Nat) : Int)))]) (fun ((j, m) : Nat × (List Int)) => (b7_2 m d f)) (fun ((j, m) : Nat × (List Int)) => j ≤ d.fs.length ∧ MxI f d a b j m) (fun ((j, m) : Nat × (List Int)) => d.fs.length - j) (0, b) ?_ ?_ ?_
        · exact ⟨Nat.zero_le _, mx_start f d a b⟩
        · exact rn_ok [([37], [37]), ([1], [1]), ([0], [0])] [[37]] [2, 4, 5, 6, 7, 13, 17, 18] (⟨clO_flat _ _ _, trivial⟩) (by kernel_rfl)
        · rintro ⟨j, m⟩ hinv
          dsimp only at hinv ⊢
          obtain ⟨hy1, hy2⟩ := hinv
          have hml := hy2.1
          refine at_seq ?_
          refine at_B [2, 4, 5, 6, 7, 13, 17, 18, 90] [] [] [(1000000, .any), (2, .tv (.sli 1 (a.map encI))), (4, .tv (.sli 1 (l.map encStr))), (5, .tv (.sli 1 (p.map encStr))), (6, .ptr [0] 0), (7, .ptr [1] 0), (13, .tv (.bool true)), (17, .sl [37] 1 0 b.length), (18, .tv (.int .i64 ((j : Nat) : Int))), (90, .tv (.bool (decide (((j : Nat) : Int) < (((d.fs.map celC).length : Nat) : Int)))))] (b7_2 m d f) 5 (by kernel_rfl) ?_ ?_
          · exact trivial
          refine at_cond (b := (decide (((j : Nat) : Int) < (((d.fs.map celC).length : Nat) : Int)))) rfl rfl (fun hc90 => ?_) (fun hc90 => ?_)
          · have q90 := hc90
            (try simp only [brs] at q90)
            refine at_skip ?_
            change AT _ _ _ _
            refine at_seq ?_
            refine at_block ?_
            refine at_D [some [[0]], none, some [[1]], none, none, none, some []] [0, 0, 2, 0, 14, 30, 62, 127] [2, 4, 5, 6, 7, 13, 17, 18, 100] [.std, .std, .std, .std, .eq (.tv (.ptr (celC (d.fs.getD j Fc.z)))), .std, .std, .ret (.tv (.bool (namedF (d.fs.getD j Fc.z).nm f)))] [(0 ≤ ((j : Nat) : Int) ∧ ((j : Nat) : Int) < ((((d.fs.map celC) : List (List TV)).length : Nat) : Int)), (.tv (.ptr (rowAt (d.fs.map celC) ((j : Nat) : Int))) : AV) = .tv (.ptr (celC (d.fs.getD j Fc.z))), PureCall Tryd.prog 33 [agF f, .tv (.str (d.fs.getD j Fc.z).nm)] (.tv (.bool (namedF (d.fs.getD j Fc.z).nm f)))] [(1000000, .any), (2, .tv (.sli 1 (a.map encI))), (4, .tv (.sli 1 (l.map encStr))), (5, .tv (.sli 1 (p.map encStr))), (6, .ptr [0] 0), (7, .ptr [1] 0), (13, .tv (.bool true)), (17, .sl [37] 1 0 b.length), (18, .tv (.int .i64 ((j : Nat) : Int))), (100, .tv (.bool (namedF (d.fs.getD j Fc.z).nm f)))] (b7_2 m d f) 13 (by kernel_rfl) ?_ ?_
            · exact ⟨by (try simp only [lns] at *); omega, congrArg (fun c => AV.tv (.ptr c)) (row_C d.fs ((j : Nat) : Int) (by (try simp only [brs, lns] at *); omega)), (c33 f (d.fs.getD j Fc.z).nm), trivial⟩
            refine at_cond (b := (namedF (d.fs.getD j Fc.z).nm f)) rfl rfl (fun hc100 => ?_) (fun hc100 => ?_)
            · have q100 := hc100
              (try simp only [brs] at q100)
              refine at_Bl [2, 4, 5, 6, 7, 13, 17, 18] [.std, .std, .std, .std, .eq (.tv (.ptr [.int .i64 (a.getD j 0)])), .std, .std, .res (.val (.tup []) (.upd [37] (.row (flat encI (m.set j (a.getD j 0))) false))) (.tup []) (.upd [37] (.row (flat encI (m.set j (a.getD j 0))) false))] [(0 ≤ ((j : Nat) : Int) ∧ ((j : Nat) : Int) < ((((a.map encI) : List (List TV)).length : Nat) : Int)), (.tv (.ptr (rowAt (a.map encI) ((j : Nat) : Int))) : AV) = .tv (.ptr [.int .i64 (a.getD j 0)]), (0 ≤ ((j : Nat) : Int) ∧ ((j : Nat) : Int) < ((b.length : Nat) : Int)), evStore Tryd.prog (b7_2 m d f) 3 (.ptr [37] ((0 + j) * 1)) (.tv (.int .i64 (a.getD j 0))) = .val (.tup []) (.upd [37] (.row (flat encI (m.set j (a.getD j 0))) false)), (∃ q, (Res.val (.tup []) (.upd [37] (.row (flat encI (m.set j (a.getD j 0))) false))) = .need q (.val (.tup []) (.upd [37] (.row (flat encI (m.set j (a.getD j 0))) false))) ∧ q) ∨ (Res.val (.tup []) (.upd [37] (.row (flat encI (m.set j (a.getD j 0))) false))) = .val (.tup []) (.upd [37] (.row (flat encI (m.set j (a.getD j 0))) false))] [(1000000, .any), (2, .tv (.sli 1 (a.map encI))), (4, .tv (.sli 1 (l.map encStr))), (5, .tv (.sli 1 (p.map encStr))), (6, .ptr [0] 0), (7, .ptr [1] 0), (13, .tv (.bool true)), (17, .sl [37] 1 0 b.length), (18, .tv (.int .i64 ((j : Nat) : Int)))] [([37], .row (flat encI (m.set j (a.getD j 0))) false), ([1], .row ((celD d).map .tv) false), ([0], .row ((celF f).map .tv) false)] 21 (by kernel_rfl) ?_ ?_
              · exact ⟨by (try simp only [lns] at *); omega, congrArg (fun c => AV.tv (.ptr c)) (row_enc encI a ((j : Nat) : Int) 0 (by (try simp only [brs, lns] at *); omega)), by (try simp only [lns] at *); omega, evStore_flat1 (enc := encI) (c := fun a => .int .i64 a) (l := m) (i := j) (a := (a.getD j 0)) (fun _ => rfl) (by kernel_rfl) rfl (by (try simp only [brs, lns] at *); omega), .inr rfl, trivial⟩
              change AT _ _ _ _
              refine at_Bl [2, 4, 5, 6, 7, 13, 17, 18] [.std, .eq (.tv (.int .i64 ((j + 1 : Nat) : Int)))] [(.tv (.int .i64 (wr (((j : Nat) : Int) + 1))) : AV) = .tv (.int .i64 ((j + 1 : Nat) : Int))] [(1000000, .any), (2, .tv (.sli 1 (a.map encI))), (4, .tv (.sli 1 (l.map encStr))), (5, .tv (.sli 1 (p.map encStr))), (6, .ptr [0] 0), (7, .ptr [1] 0), (13, .tv (.bool true)), (17, .sl [37] 1 0 b.length), (18, .tv (.int .i64 ((j + 1 : Nat) : Int)))] [([37], .row (flat encI (m.set j (a.getD j 0))) false), ([1], .row ((celD d).map .tv) false), ([0], .row ((celF f).map .tv) false)] 24 (by kernel_rfl) ?_ ?_
              · exact ⟨succ_av j (by (try simp only [lns] at *); omega), trivial⟩
              refine ⟨rfl, (j + 1, (m.set j (a.getD j 0))), ?_, ?_, ?_⟩
              · (try dsimp only); omega
              · (try dsimp only); exact ⟨by omega, by first | exact mx_t hy2 (by omega) hc100 | exact mx_f hy2 hc100⟩
              · exact rn_ok [([37], [37]), ([1], [1]), ([0], [0])] [[37]] [2, 4, 5, 6, 7, 13, 17, 18] (⟨clO_flat _ _ _, trivial⟩) (by kernel_rfl)
            · have q100 := hc100
              (try simp only [brs] at q100)
              refine at_skip ?_
              change AT _ _ _ _
              refine at_Bl [2, 4, 5, 6, 7, 13, 17, 18] [.std, .eq (.tv (.int .i64 ((j + 1 : Nat) : Int)))] [(.tv (.int .i64 (wr (((j : Nat) : Int) + 1))) : AV) = .tv (.int .i64 ((j + 1 : Nat) : Int))] [(1000000, .any), (2, .tv (.sli 1 (a.map encI))), (4, .tv (.sli 1 (l.map encStr))), (5, .tv (.sli 1 (p.map encStr))), (6, .ptr [0] 0), (7, .ptr [1] 0), (13, .tv (.bool true)), (17, .sl [37] 1 0 b.length), (18, .tv (.int .i64 ((j + 1 : Nat) : Int)))] (b7_2 m d f) 16 (by kernel_rfl) ?_ ?_
              · exact ⟨succ_av j (by (try simp only [lns] at *); omega), trivial⟩
              refine ⟨rfl, (j + 1, m), ?_, ?_, ?_⟩
              · (try dsimp only); omega
              · (try dsimp only); exact ⟨by omega, by first | exact mx_t hy2 (by omega) hc100 | exact mx_f hy2 hc100⟩
              · exact rn_ok [([37], [37]), ([1], [1]), ([0], [0])] [[37]] [2, 4, 5, 6, 7, 13, 17, 18] (⟨clO_flat _ _ _, trivial⟩) (by kernel_rfl)
          · have q90 := hc90
            (try simp only [brs] at q90)
            have hje : j = d.fs.length := by omega
            rw [hje] at hy2
            refine at_exit ?_
            change AT _ _ _ _
            refine at_D [none, none, some [[0]], some [[1]], none, none, none, some [[0]], some [[1]]] [0, 1, 3, 3, 3, 3, 63, 3, 3, 3, 3, 2047, 4095, 8191, 16383] [12] [.std, .std, .std, .std, .std, .std, .ret (.tv (.bool (holdP f d a l))), .std, .std, .std, .std, .retS (.tv (.bool (holdP f d m p)))] [(true = true) → PureCall Tryd.prog 26 [agF f, agD d, .tv (.sli 1 (a.map encI)), .tv (.sli 1 (l.map encStr))] (.tv (.bool (holdP f d a l))), (true = true) → StabCall Tryd.prog 26 [agF f, agD d, .sl [37] 1 0 b.length, .tv (.sli 1 (p.map encStr))] (b7_2 m d f) (.tv (.bool (holdP f d m p)))] [(1000000, .any), (12, .tv (.bool ((holdP f d a l) == (holdP f d m p))))] (b7_2 m d f) 56 (by kernel_rfl) ?_ ?_
            · exact ⟨fun hg0 => (c26 f d a l), fun hg0 => frz_stab (args' := [agF f, agD d, .tv (.sli 1 (m.map encI)), .tv (.sli 1 (p.map encStr))]) (H0 := [([37], .row (flat encI m) true), ([1], .row ((celD d).map .tv) false), ([0], .row ((celF f).map .tv) false)]) (frzs_to (by kernel_rfl) (frzs_cons (frzV_agg) (frzs_cons (frzV_agg) (frzs_cons (frz_flat2 (enc := encI) (l := m) (sz := 1) rfl (fun _ => rfl) (by decide) (by first | rfl | omega | (simp only [lns]; done) | (simp only [lns]; omega))) (frzs_cons (frzV_tv) (frzs_nil)))))) (by kernel_rfl) (c26 f d m p), trivial⟩
            refine at_ret ?_
            refine fin0 (.inr rfl) (.tv (.bool ((holdP f d a l) == (holdP f d m p)))) (b7_2 m d f) (.tv (.bool ((holdP f d a l) == (holdP f d m p)))) (H2 := (b7_2 m d f)) (by kernel_rfl) (by kernel_rfl) ?_
            refine Le.of_eq ?_
            rw [hold_mix q44.1.2 q44.2 hy2 (fun j hj => hx2 j (by omega))]; simp
end Go.Proofs.YtphmhelkojdlaaaDoor
namespace Go.Proofs.YtphmhelkojdlaaaDoor
open Go.RowKit Go.ChangeShapes Go.WideShapes Go.ChangeAt
set_option linter.unusedSimpArgs false
set_option linter.unusedVariables false
section
variable {H : Type} {enc : TypeId × Value → H} {W : World}
theorem rd_3 (fuel : Nat) : Rd enc Tryd.prog W fuel 3 (fun n : Int => [.int .i64 n]) := rd_int Tryd.underlying3
theorem rd_9 (fuel : Nat) : Rd enc Tryd.prog W fuel 9 (fun s : ByteArray => [.str s]) := rd_str Tryd.underlying9
theorem rde_24 : ∀ (fuel : Nat), Rd enc Tryd.prog W fuel 24 encF := by
  intro fuel
  induction fuel using Nat.strongRecOn with
  | _ fuel ih =>
  cases fuel with
  | zero => exact rd_zero
  | succ fuel =>
    intro cs x h
    obtain ⟨hl, hf⟩ := rd_fields Tryd.underlying24 h
    have rk : Rd enc Tryd.prog W fuel 22 (fun l : List Fm => [.sli 5 (l.map encF)]) := by
      cases fuel with
      | zero => exact rd_zero
      | succ fuel => exact rd_slice Tryd.underlying22 (by kernel_rfl) encF_len (ih fuel (by omega))
    obtain ⟨a0, r0⟩ := rd_field hf 0 3 0 1 rfl (by kernel_rfl) (rd_3 fuel)
    obtain ⟨a1, r1⟩ := rd_field hf 1 9 1 1 rfl (by kernel_rfl) (rd_9 fuel)
    obtain ⟨a2, r2⟩ := rd_field hf 2 3 2 1 rfl (by kernel_rfl) (rd_3 fuel)
    obtain ⟨a3, r3⟩ := rd_field hf 3 3 3 1 rfl (by kernel_rfl) (rd_3 fuel)
    obtain ⟨a4, r4⟩ := rd_field hf 4 22 4 1 rfl (by kernel_rfl) (rk)
    refine ⟨(Fm.mk a0 a1 a2 a3 a4), ?_⟩
    rw [encF_eq]
    exact CR.app (off := 0) (n := 1) r0 rfl (CR.app (off := 1) (n := 1) r1 rfl (CR.app (off := 2) (n := 1) r2 rfl (CR.app (off := 3) (n := 1) r3 rfl (CR.app (off := 4) (n := 1) r4 rfl (CR.fin (n := 5) (hl.trans (by kernel_rfl)))))))
theorem rd_24 (fuel : Nat) : Rd enc Tryd.prog W fuel 24 celF := rd_ext (rde_24 fuel) (fun a => ⟨a, (encF_eq a).symm⟩)
theorem rd_52 (fuel : Nat) : Rd enc Tryd.prog W fuel 52 celC := by
  cases fuel with
  | zero => exact rd_zero
  | succ fuel =>
    intro cs x h
    obtain ⟨hl, hf⟩ := rd_fields Tryd.underlying52 h
    obtain ⟨a0, r0⟩ := rd_field hf 0 9 0 1 rfl (by kernel_rfl) (rd_9 fuel)
    obtain ⟨a1, r1⟩ := rd_field hf 1 3 1 1 rfl (by kernel_rfl) (rd_3 fuel)
    obtain ⟨a2, r2⟩ := rd_field hf 2 3 2 1 rfl (by kernel_rfl) (rd_3 fuel)
    obtain ⟨a3, r3⟩ := rd_field hf 3 3 3 1 rfl (by kernel_rfl) (rd_3 fuel)
    refine ⟨(Fc.mk a0 a1 a2 a3), ?_⟩
    exact CR.app (off := 0) (n := 1) r0 rfl (CR.app (off := 1) (n := 1) r1 rfl (CR.app (off := 2) (n := 1) r2 rfl (CR.app (off := 3) (n := 1) r3 rfl (CR.fin (n := 4) (hl.trans (by kernel_rfl))))))
theorem rd_25 (fuel : Nat) : Rd enc Tryd.prog W fuel 25 (fun l : List Fc => [.sli 4 (l.map celC)]) := by
  cases fuel with
  | zero => exact rd_zero
  | succ fuel => exact rd_slice Tryd.underlying25 (by kernel_rfl) (fun _ => rfl) (rd_52 fuel)
theorem rd_27 (fuel : Nat) : Rd enc Tryd.prog W fuel 27 celD := by
  cases fuel with
  | zero => exact rd_zero
  | succ fuel =>
    intro cs x h
    obtain ⟨hl, hf⟩ := rd_fields Tryd.underlying27 h
    obtain ⟨a0, r0⟩ := rd_field hf 0 25 0 1 rfl (by kernel_rfl) (rd_25 fuel)
    refine ⟨(Dm.mk a0), ?_⟩
    exact CR.app (off := 0) (n := 1) r0 rfl (CR.fin (n := 1) (hl.trans (by kernel_rfl)))
theorem rd_29 (fuel : Nat) : Rd enc Tryd.prog W fuel 29 (fun l : List Int => [.sli 1 (l.map encI)]) := by
  cases fuel with
  | zero => exact rd_zero
  | succ fuel => exact rd_slice Tryd.underlying29 (by kernel_rfl) (fun _ => rfl) (rd_3 fuel)
theorem rd_30 (fuel : Nat) : Rd enc Tryd.prog W fuel 30 (fun l : List ByteArray => [.sli 1 (l.map encStr)]) := by
  cases fuel with
  | zero => exact rd_zero
  | succ fuel => exact rd_slice Tryd.underlying30 (by kernel_rfl) (fun _ => rfl) (rd_9 fuel)
end
theorem own : ownKnob Tryd.prog.godebug = none := by kernel_rfl
theorem laidOut : laidOutB Tryd.prog = true := by kernel_rfl
abbrev laidL {H : Type} : List (String × DataW H) := [("math/bits.deBruijn32tab", Rows.laid_math_bits_deBruijn32tab), ("math/bits.deBruijn64tab", Rows.laid_math_bits_deBruijn64tab), ("internal/strconv.uint64pow10", Rows.laid_internal_strconv_uint64pow10), ("strconv.ErrRange", Rows.laid_strconv_ErrRange), ("strconv.ErrSyntax", Rows.laid_strconv_ErrSyntax)]
/-- The door's own heap meets the condition. -/
theorem door_met (os : Os) (args : Array Value) : laidMetH Tryd.prog laidL ((World.doorLaid Tryd.prog 4000 os).forCall (fun _ _ => 0) ⟨#[], args, []⟩).memory :=
  laidMetH_of_parts3 (fuel := 8) (laidMet_of_run' 8 (by kernel_rfl) (by kernel_rfl)) (by kernel_rfl) (by kernel_rfl)
end Go.Proofs.YtphmhelkojdlaaaDoor
namespace Go.Proofs.YtphmhelkojdlaaaDoor
open Go.RowKit Go.ChangeShapes Go.WideShapes Go.ChangeAt
set_option linter.unusedSimpArgs false
set_option linter.unusedVariables false
theorem law7_pure (f : Fm) (d : Dm) (a b : List Int) (l p : List ByteArray) : PureCall Tryd.prog 7 [.agg ((celF f).map .tv), .agg ((celD d).map .tv), .tv (.sli 1 (a.map encI)), .tv (.sli 1 (b.map encI)), .tv (.sli 1 (l.map encStr)), .tv (.sli 1 (p.map encStr))] (.tv (.bool true)) := l7 f d a b l p
set_option maxRecDepth 100000 in
theorem lifted7 (os : Os) (started : os.Started) (H : Type) (enc : TypeId × Value → H) :
    ReturnsInHanded {} Tryd.checked os 7 .any (fun w args => (Rows.formulaMattersSpec.pre enc Tryd.prog Tryd.f7 [] false w args ∧ laidMetH Tryd.prog laidL w) ∧ sizedMet enc Tryd.prog Tryd.f7 (OpenSpec.ofChange Rows.formulaMattersSpec) false w args) (Rows.formulaMattersSpec.post enc Tryd.prog Tryd.f7 false true false false) := by
  refine returnsInHanded_of_change_and (C := Tryd.checked) (X := fun w _ => laidMetH Tryd.prog laidL w) (fun _ _ _ hh h => h.of_heap hh) own started (by kernel_rfl) Tryd.func7
    (ChangeSpec.witness_shaped (enc := enc) (C := Tryd.checked) (os := os) (X := fun w _ => laidMetH Tryd.prog laidL w) false (World.doorLaid Tryd.prog 4000 os) #[.agg #[.int .i64 0, .string ⟨#[]⟩, .int .i64 0, .int .i64 0, .slice none 0 0], .agg #[.slice none 0 0], .slice none 0 0, .slice none 0 0, .slice none 0 0, .slice none 0 0] 8 rfl (World.shaped_of_RefB (by kernel_rfl) (by kernel_rfl)) (by kernel_rfl) (by kernel_rfl) (by kernel_rfl) (door_met os _)) ?_
  intro W base args ds gs before hval0 hW _ _ hL _
  have hval : ∀ (j : Nat) t v, Tryd.f7.params[j]? = some t → args[j]? = some v → Value.okWide Tryd.prog W .any base t v := hval0
  have hW' := hW
  obtain ⟨p, q, hA0, hV, rfl, _, _⟩ := hW
  have hA : DataW.TrodAll enc Tryd.prog W 0 (fun _ => true) true Tryd.f7.params.toList args.toList ds p := hA0
  rw [Tryd.params7] at hA hval
  obtain ⟨v0, vs0, d0, ds0, p0, q0, hargs, rfl, rfl, h0, g0⟩ := trodAll_cons hA
  obtain ⟨v1, vs1, d1, ds1, p1, q1, rfl, rfl, rfl, h1, g1⟩ := trodAll_cons g0
  obtain ⟨v2, vs2, d2, ds2, p2, q2, rfl, rfl, rfl, h2, g2⟩ := trodAll_cons g1
  obtain ⟨v3, vs3, d3, ds3, p3, q3, rfl, rfl, rfl, h3, g3⟩ := trodAll_cons g2
  obtain ⟨v4, vs4, d4, ds4, p4, q4, rfl, rfl, rfl, h4, g4⟩ := trodAll_cons g3
  obtain ⟨v5, vs5, d5, ds5, p5, q5, rfl, rfl, rfl, h5, g5⟩ := trodAll_cons g4
  obtain ⟨rfl, rfl, rfl⟩ := trodAll_nil g5
  obtain rfl : args = #[v0, v1, v2, v3, v4, v5] := by cases args; simp_all
  obtain ⟨rfl, rfl⟩ := trodVars_none hV
  obtain ⟨us0, rfl, _⟩ := okWide_struct Tryd.underlying24 (hval 0 24 v0 rfl rfl)
  obtain ⟨x0, y0⟩ := arg_agg (ι := fun _ => none) rd_24 h0
  obtain ⟨us1, rfl, _⟩ := okWide_struct Tryd.underlying27 (hval 1 27 v1 rfl rfl)
  obtain ⟨x1, y1⟩ := arg_agg (ι := fun _ => none) rd_27 h1
  obtain ⟨z2, len2, cap2, rfl⟩ := okWide_slice Tryd.underlying29 (hval 2 29 v2 rfl rfl)
  obtain ⟨x2, y2⟩ := arg_one (ι := fun _ => none) rfl rd_29 h2
  obtain ⟨z3, len3, cap3, rfl⟩ := okWide_slice Tryd.underlying29 (hval 3 29 v3 rfl rfl)
  obtain ⟨x3, y3⟩ := arg_one (ι := fun _ => none) rfl rd_29 h3
  obtain ⟨z4, len4, cap4, rfl⟩ := okWide_slice Tryd.underlying30 (hval 4 30 v4 rfl rfl)
  obtain ⟨x4, y4⟩ := arg_one (ι := fun _ => none) rfl rd_30 h4
  obtain ⟨z5, len5, cap5, rfl⟩ := okWide_slice Tryd.underlying30 (hval 5 30 v5 rfl rfl)
  obtain ⟨x5, y5⟩ := arg_one (ι := fun _ => none) rfl rd_30 h5
  clear hA0 hval0
  simp only [List.append_nil] at hW'
  have hlt : ∀ x ∈ p0 ++ p1 ++ p2 ++ p3 ++ p4 ++ p5, x.block < W.heap.size := fun x hx => by simpa using hW'.lt x (by simpa using hx)
  refine (law_calls (P := Tryd.prog) (b := true) (law7_pure x0 x1 x2 x3 x4 x5) (VRs.cons y0 (VRs.cons y1 (VRs.cons y2 (VRs.cons y3 (VRs.cons y4 (VRs.cons y5 (VRs.nil _ _)))))))).mono fun e W' ⟨he, hb⟩ => ?_
  subst he
  refine ⟨_, rfl, _, _, _, [], _, [], hW', trodAll_mk1 (shut_bool Tryd.underlying4 true), (trodAll_cons_mk (Below.trod laidOut (by kernel_rfl) (of_decide_eq_true (by kernel_rfl)) h0 hb (fun x hx => hlt x (by simp [hx]))) (trodAll_cons_mk (Below.trod laidOut (by kernel_rfl) (of_decide_eq_true (by kernel_rfl)) h1 hb (fun x hx => hlt x (by simp [hx]))) (trodAll_cons_mk (Below.trod laidOut (by kernel_rfl) (of_decide_eq_true (by kernel_rfl)) h2 hb (fun x hx => hlt x (by simp [hx]))) (trodAll_cons_mk (Below.trod laidOut (by kernel_rfl) (of_decide_eq_true (by kernel_rfl)) h3 hb (fun x hx => hlt x (by simp [hx]))) (trodAll_cons_mk (Below.trod laidOut (by kernel_rfl) (of_decide_eq_true (by kernel_rfl)) h4 hb (fun x hx => hlt x (by simp [hx]))) (trodAll_cons_mk (Below.trod laidOut (by kernel_rfl) (of_decide_eq_true (by kernel_rfl)) h5 hb (fun x hx => hlt x (by simp [hx]))) trodAll_mk0)))))), rfl, hb.frame _, fun h => by cases h⟩
theorem proved7 : Rows.FormulaMattersSaid :=
  OpenClaim.holds_of_wide 7 Tryd.f7 rfl rfl rfl rfl rfl rfl rfl ⟨rfl, rfl, rfl, rfl, rfl⟩ rfl rfl rfl rfl rfl (by kernel_rfl) Tryd.func7 (by kernel_rfl)
    (of_decide_eq_true (by kernel_rfl)) (by unfold Func.isWrapper; first | (rw [if_pos (by decide +kernel)]; kernel_rfl) | (rw [if_neg (by decide +kernel)]; exact ⟨rfl, rfl⟩))
    (fun os started H enc _ => lifted7 os started H enc)
theorem card7 : Rows.FormulaMattersCardSaid :=
  Claim7.holds_tied_plain_at .later [] _ true (true, "4a36700912013bb2f555b7a01611f8226529d3d0a19222fa014a5d6bd73064b1") true
    proved7 (fun _ h => by cases h) (by kernel_rfl) (fun _ h => by cases h) formulaMatters_row_tie rfl ⟨rfl, rfl⟩ (by kernel_rfl) rfl
    (fun f fn hf hfn => by
      obtain rfl : f = 7 := Option.some.inj ((show Tryd.prog.funcNamed "pandect/pandectlaw07.FormulaMatters" = some 7 by kernel_rfl).symm.trans hf) |>.symm
      obtain rfl : fn = Tryd.f7 := (Option.some.inj (Tryd.func7.symm.trans hfn)).symm
      exact ⟨by kernel_rfl, fun j t ht => by
        rw [Tryd.params7] at ht
        have hm : t ∈ [24, 27, 29, 29, 30, 30] := by simpa using Array.mem_of_getElem? ht
        have hall : ([24, 27, 29, 29, 30, 30].all fun u => !Tryd.prog.wantsStandIn u) = true := by kernel_rfl
        exact (show Tryd.prog.wantsStandIn t = false by simpa using List.all_eq_true.1 hall t hm)⟩)
    (by kernel_rfl)
#print axioms card7
end Go.Proofs.YtphmhelkojdlaaaDoor
