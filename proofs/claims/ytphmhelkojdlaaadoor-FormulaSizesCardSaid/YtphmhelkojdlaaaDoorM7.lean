/- Part M7 of the proof. -/
import Derived.Test.YtphmhelkojdlaaaDoorRows
import Derived.LaidMore
import Derived.Stop.Joined
import Derived.Test.YtphmhelkojdlaaaDoorCards
import Derived.Test.YtphmhelkojdlaaaDoorTie
import Derived.Test.YtphmhelkojdlaaaDoorM6
namespace Go.Proofs.YtphmhelkojdlaaaDoor
open Go.RowKit
set_option linter.unusedSimpArgs false
set_option linter.unusedVariables false
theorem mx_or (a b : Int) : mx a b = a ∧ b ≤ a ∨ mx a b = b ∧ a ≤ b := by
  unfold mx
  split
  · exact .inr ⟨rfl, by omega⟩
  · exact .inl ⟨rfl, by omega⟩
theorem szFs_ok {l : List Fm} (h : ∀ k ∈ l, nF k ≤ 1000000 → (szF k).1 = (nF k : Int) ∧ 1 ≤ (szF k).2 ∧ (szF k).2 ≤ (nF k : Int)) :
    ∀ (a d : Int), 1 ≤ a → a + (nFs l : Int) ≤ 1000001 → 0 ≤ d → d ≤ 1000000 → (szFs l a d).1 = a + (nFs l : Int) ∧ d ≤ (szFs l a d).2 ∧ (szFs l a d).2 ≤ d + (nFs l : Int) := by
  induction l with
  | nil => intro a d h1 h2 h3 h4; simp only [szFs, nFs]; omega
  | cons k r ih =>
    intro a d h1 h2 h3 h4
    simp only [nFs] at h2
    have hp := nF_pos k
    obtain ⟨a1, a2, a3⟩ := h k (by simp) (by omega)
    simp only [szFs, nFs]
    have hw : wr (a + (szF k).1) = a + (szF k).1 := wr_fit _ ⟨by omega, by omega⟩
    rw [hw, a1]
    have hm := mx_or d (szF k).2
    obtain ⟨b1, b2, b3⟩ := ih (fun x hx => h x (by simp [hx])) (a + (nF k : Int)) (mx d (szF k).2) (by omega) (by omega) (by omega) (by omega)
    refine ⟨by omega, by omega, by omega⟩
theorem szF_ok : ∀ f : Fm, nF f ≤ 1000000 → (szF f).1 = (nF f : Int) ∧ 1 ≤ (szF f).2 ∧ (szF f).2 ≤ (nF f : Int) := by
  refine Fm.ind (fun f ih => ?_)
  intro hn
  rw [nF_eq] at hn ⊢
  rw [szF_eq]
  obtain ⟨a, b, c⟩ := szFs_ok ih 1 0 (by omega) (by omega) (by omega) (by omega)
  simp only
  rw [wr_fit _ ⟨by omega, by omega⟩]
  omega
/-- A formula with at most k nodes and e levels, of which every node is well-formed. -/
structure Gd (d : Dm) (k e : Int) (f : Fm) : Prop where
  n : (nF f : Int) ≤ k
  e : (szF f).2 ≤ e
  z : errF (oneR d [] true) f = 0
theorem errFs_all {e : Fm → Int} {l : List Fm} (h : ∀ k ∈ l, errF e k = 0) : errFs e l = 0 := by
  induction l with
  | nil => rfl
  | cons k r ih => simp only [errFs, h k (by simp), ih (fun x hx => h x (by simp [hx]))]; rfl
theorem errF_mk {e : Fm → Int} {f : Fm} (h : e f = 0) (hk : ∀ k ∈ f.ks, errF e k = 0) : errF e f = 0 := by
  rw [errF_eq, h, errFs_all hk]; rfl
theorem large_iff {f : Fm} (hn : nF f ≤ 1000000) : largeR f = false ↔ (nF f : Int) ≤ 200 ∧ (szF f).2 ≤ 20 := by
  have := szF_ok f hn
  unfold largeR
  rw [Bool.or_eq_false_iff, decide_eq_false_iff_not, decide_eq_false_iff_not, this.1]
  omega
theorem Gd.check {d : Dm} {k e : Int} {f : Fm} (h : Gd d k e f) (hk : k ≤ 200) (he : e ≤ 20) : checkA f d = 0 := by
  have h1 := h.n
  have h2 := h.e
  have hl : largeR f = false := (large_iff (by omega)).2 ⟨by omega, by omega⟩
  unfold checkA
  rw [hl, h.z]; rfl
theorem Gd.hold {d : Dm} {k e : Int} {f : Fm} (h : Gd d k e f) (hk : k ≤ 200) (he : e ≤ 20) {c : List Int} (hc : fitsD d c = true) (l : List ByteArray) : holdP f d c l = valF d c l f := by
  unfold holdP
  rw [h.check hk he, hc]; rfl
/-! ### Connectives -/
theorem one_op {d : Dm} {f : Fm} (h : formedR f = true) (h3 : ¬ f.op = 3) (h4 : ¬ f.op = 4) : oneR d [] true f = 0 := by
  refine one_0 (by rw [h]; rfl) ?_ ?_
  · unfold rangeE; rw [decide_eq_false h3]; rfl
  · unfold nameE; rw [decide_eq_false h3, decide_eq_false h4]; rfl
theorem Gd.one {d : Dm} {k e : Int} {f : Fm} (h : Gd d k e f) (hk : k ≤ 1000) (he : e ≤ 1000) : Gd d (k + 1) (e + 1) (.mk 5 ⟨#[]⟩ 0 0 [f]) := by
  have hn := h.n
  have hs := szF_ok f (by omega)
  have he' := h.e
  refine ⟨?_, ?_, errF_mk (one_op (by rfl) (by show ¬ (5 : Int) = 3; decide) (by show ¬ (5 : Int) = 4; decide)) (fun x hx => ?_)⟩
  · simp only [nF, nFs]; omega
  · rw [szF_eq]
    simp only [Fm.ks, szFs]
    have := mx_or 0 (szF f).2
    rw [wr_fit _ ⟨by omega, by omega⟩]; omega
  · simp only [Fm.ks, List.mem_singleton] at hx; subst hx; exact h.z
end Go.Proofs.YtphmhelkojdlaaaDoor
namespace Go.Proofs.YtphmhelkojdlaaaDoor
open Go.RowKit
set_option linter.unusedSimpArgs false
set_option linter.unusedVariables false
theorem TLs.of_eq {l l' : List TV} (h : l = l') : TLs l l' := h ▸ TLs.refl l
end Go.Proofs.YtphmhelkojdlaaaDoor
namespace Go.Proofs.YtphmhelkojdlaaaDoor
open Go.RowKit
set_option linter.unusedSimpArgs false
set_option linter.unusedVariables false
theorem timesFs_ok {s : ByteArray} {g : Fm} {l : List Fm} (h : ∀ k ∈ l, nF k ≤ 1000000 → 0 ≤ timesF s k ∧ timesF s k ≤ (nF k : Int) ∧ (plainF k = true → (nF (expF s g k) : Int) = (nF k : Int) + timesF s k * ((nF g : Int) - 1))) :
    ∀ a : Int, 0 ≤ a → a + (nFs l : Int) ≤ 1000001 → (nFs l : Int) ≤ 1000000 → ∃ t : Int, timesFs s l a = a + t ∧ 0 ≤ t ∧ t ≤ (nFs l : Int) ∧ (plainFs l = true → (nFs (l.map (expF s g)) : Int) = (nFs l : Int) + t * ((nF g : Int) - 1)) := by
  induction l with
  | nil => intro a h1 h2 _; exact ⟨0, by simp [timesFs], by omega, by simp [nFs], fun _ => by simp [nFs]⟩
  | cons k r ih =>
    intro a h1 h2 h3
    simp only [nFs] at h2 h3
    obtain ⟨a1, a2, a3⟩ := h k (by simp) (by omega)
    have hw : wr (a + timesF s k) = a + timesF s k := wr_fit _ ⟨by omega, by omega⟩
    obtain ⟨t, b1, b2, b3, b4⟩ := ih (fun x hx => h x (by simp [hx])) (a + timesF s k) (by omega) (by omega) (by omega)
    refine ⟨timesF s k + t, ?_, by omega, by simp only [nFs]; omega, fun hp => ?_⟩
    · simp only [timesFs, hw, b1]; omega
    · simp only [plainFs, Bool.and_eq_true] at hp
      simp only [List.map_cons, nFs]
      have e1 := a3 hp.1
      have e2 := b4 hp.2
      rw [Int.add_mul]
      omega
theorem times_ok {s : ByteArray} {g : Fm} : ∀ f : Fm, nF f ≤ 1000000 → 0 ≤ timesF s f ∧ timesF s f ≤ (nF f : Int) ∧ (plainF f = true → (nF (expF s g f) : Int) = (nF f : Int) + timesF s f * ((nF g : Int) - 1)) := by
  refine Fm.ind (fun f ih => ?_)
  intro hn
  rw [nF_eq] at hn
  rw [timesF_eq, expF_eq, plainF_eq]
  cases hc : (decide (f.op = 4) && decide (f.nm = s)) with
  | true =>
    simp only [cond_true]
    have ho : f.op = 4 := by rw [Bool.and_eq_true, decide_eq_true_eq] at hc; exact hc.1
    obtain ⟨t, b1, b2, b3, b4⟩ := timesFs_ok (s := s) (g := g) ih 1 (by omega) (by omega) (by omega)
    refine ⟨by omega, by rw [nF_eq]; omega, fun hp => ?_⟩
    rw [ho] at hp
    simp only [decide_true, cond_true, Bool.and_eq_true, decide_eq_true_eq] at hp
    have hk : f.ks = [] := List.eq_nil_of_length_eq_zero (by omega)
    rw [nF_eq f, hk]
    simp only [timesFs, nFs]; omega
  | false =>
    simp only [cond_false]
    obtain ⟨t, b1, b2, b3, b4⟩ := timesFs_ok (s := s) (g := g) ih 0 (by omega) (by omega) (by omega)
    refine ⟨by omega, by rw [nF_eq]; omega, fun hp => ?_⟩
    rw [b1, nF_eq f]
    simp only [nF]
    cases h4 : decide (f.op = 4) with
    | true =>
      rw [h4] at hp
      simp only [cond_true, Bool.and_eq_true, decide_eq_true_eq] at hp
      have hk : f.ks = [] := List.eq_nil_of_length_eq_zero (by omega)
      rw [hk] at b1 ⊢
      simp only [timesFs] at b1
      have ht : t = 0 := by omega
      subst ht
      simp [nFs]
    | false =>
      rw [h4] at hp
      have := b4 hp
      have e : (0 : Int) + t = t := by omega
      rw [e]
      omega
theorem exp_self {s : ByteArray} : ∀ f : Fm, plainF f = true → expF s (.mk 4 s 0 0 []) f = f := by
  refine Fm.ind (fun f ih => ?_)
  intro hp
  rw [plainF_eq] at hp
  rw [expF_eq]
  cases h4 : decide (f.op = 4) with
  | true =>
    rw [h4] at hp
    simp only [cond_true, Bool.and_eq_true, decide_eq_true_eq] at hp
    have hk : f.ks = [] := List.eq_nil_of_length_eq_zero (by omega)
    have ho := of_decide_eq_true h4
    cases hs : decide (f.nm = s) with
    | true =>
      have hz := of_decide_eq_true hs
      clear hs h4 ih
      obtain ⟨op, nm, cm, n, ks⟩ := f
      simp only [Fm.op, Fm.nm, Fm.cm, Fm.n, Fm.ks] at ho hk hp hz
      obtain ⟨⟨_, h1⟩, h2⟩ := hp
      subst ho hz h1 h2 hk
      rfl
    | false =>
      cases f
      simp only [Fm.op, Fm.nm, Fm.cm, Fm.n, Fm.ks] at *
      subst hk
      rfl
  | false =>
    rw [h4] at hp
    simp only [Bool.false_and, cond_false]
    have hp2 : plainFs f.ks = true := hp
    have hall : ∀ l : List Fm, (∀ k ∈ l, plainF k = true → expF s (.mk 4 s 0 0 []) k = k) → plainFs l = true → l.map (expF s (.mk 4 s 0 0 [])) = l := by
      intro l
      induction l with
      | nil => intro _ _; rfl
      | cons k r ih2 =>
        intro h1 h2
        simp only [plainFs, Bool.and_eq_true] at h2
        rw [List.map_cons, h1 k (by simp) h2.1, ih2 (fun x hx => h1 x (by simp [hx])) h2.2]
    rw [hall f.ks ih hp2]
    cases f
    rfl
theorem sizes_fin {f g : Fm} {s : ByteArray} (hf : (nF f : Int) ≤ 200) (hg : (nF g : Int) ≤ 200) (hp : plainF f = true) : (szF (expF s g f)).1 = wr ((szF f).1 + wr (timesF s f * wr ((szF g).1 - 1))) := by
  obtain ⟨t1, t2, t3⟩ := times_ok (s := s) (g := g) f (by omega)
  have t3 := t3 hp
  have hpos := nF_pos g
  have hb : timesF s f * ((nF g : Int) - 1) ≤ 200 * ((nF g : Int) - 1) := Int.mul_le_mul_of_nonneg_right (by omega) (by omega)
  have hb0 : 0 ≤ timesF s f * ((nF g : Int) - 1) := Int.mul_nonneg t1 (by omega)
  rw [(szF_ok f (by omega)).1, (szF_ok g (by omega)).1, (szF_ok (expF s g f) (by omega)).1, wr_fit ((nF g : Int) - 1) ⟨by omega, by omega⟩, wr_fit (timesF s f * ((nF g : Int) - 1)) ⟨by omega, by omega⟩, wr_fit _ ⟨by omega, by omega⟩, t3]
theorem sameFs_reflA {l : List Fm} (h : ∀ k ∈ l, sameF k k = true) : sameFs l l = true := by
  induction l with
  | nil => rfl
  | cons k r ih =>
    have h1 : sameF k ((k :: r).getD 0 Fm.z) = true := h k (by simp)
    have h2 : sameFs r (List.drop 1 (k :: r)) = true := ih (fun x hx => h x (by simp [hx]))
    rw [sameFs, h1, h2]; rfl
theorem sameF_reflA : ∀ f : Fm, sameF f f = true := by
  refine Fm.ind (fun f ih => ?_)
  rw [sameF_eq, sameFs_reflA ih]
  simp
end Go.Proofs.YtphmhelkojdlaaaDoor
namespace Go.Proofs.YtphmhelkojdlaaaDoor
open Go.RowKit
set_option maxRecDepth 10000
set_option linter.unusedSimpArgs false
set_option linter.unusedVariables false
noncomputable abbrev b8_1 (nm : ByteArray) : Id × AO := ([51], .row [.tv (.int .i64 4), .tv (.str nm), .tv (.int .i64 0), .tv (.int .i64 0), .tv .nils] false)
noncomputable abbrev b8_2 (nm : ByteArray) (g : Fm) (f : Fm) : Id × AO := ([40], .row ((celF (expF nm g f)).map .tv) false)
noncomputable abbrev b8_3 (g : Fm) (f : Fm) : Hp := [([1], .row ((celF g).map .tv) false), ([0], .row ((celF f).map .tv) false)]
noncomputable abbrev b8_4 (nm : ByteArray) (g : Fm) (f : Fm) : Hp := [(b8_1 nm), (b8_2 nm g f), ([1], .row ((celF g).map .tv) false), ([0], .row ((celF f).map .tv) false)]
theorem l8 (f : Fm) (g : Fm) (nm : ByteArray)  : PureCall Tryd.prog 8 [agF f, agF g, .tv (.str nm)] (.tv (.bool true)) := by
  refine walk0 (fn := Tryd.f8) [.tmp 6] Tryd.func8 rfl (by kernel_rfl) rfl (by kernel_rfl) (by kernel_rfl) ?_
  change AT _ _ _ ⟨[(0, agF f), (1, agF g), (2, .tv (.str nm))], [], [], 0⟩
  refine at_agF 0 rfl (fun hlen => ?_)
  refine at_B [2, 3, 4] [] [] [(1000000, .any), (2, .tv (.str nm)), (3, .ptr [0] 0), (4, .ptr [1] 0)] (b8_3 g f) 3 (by kernel_rfl) ?_ ?_
  · exact trivial
  refine at_B [2, 3, 4, 7] [.ret (.tv (.bool true))] [PureCall Tryd.prog 11 [] (.tv (.bool true))] [(1000000, .any), (2, .tv (.str nm)), (3, .ptr [0] 0), (4, .ptr [1] 0), (7, .tv (.bool true))] (b8_3 g f) 5 (by kernel_rfl) ?_ ?_
  · exact ⟨(c11), trivial⟩
  refine at_seq ?_
  refine at_B [2, 3, 4, 7, 35] [.std, .ret (.tv (.bool (decide (cntF f 200 ≤ 200)))), .std, .std, .std, .ret (.tv (.bool (decide (cntF g 200 ≤ 200))))] [PureCall Tryd.prog 12 [agF f, .tv (.int .i64 200)] (.tv (.bool (decide (cntF f 200 ≤ 200)))), ((!(decide (cntF f 200 ≤ 200))) = false) → PureCall Tryd.prog 12 [agF g, .tv (.int .i64 200)] (.tv (.bool (decide (cntF g 200 ≤ 200))))] [(1000000, .any), (2, .tv (.str nm)), (3, .ptr [0] 0), (4, .ptr [1] 0), (7, .tv (.bool true)), (35, .tv (.bool (((!(decide (cntF f 200 ≤ 200))) || (!(decide (cntF g 200 ≤ 200)))) || (decide ((60 : Int) < ((nm.size : Nat) : Int))))))] (b8_3 g f) 18 (by kernel_rfl) ?_ ?_
  · exact ⟨(c12 f 200), fun hg0 => (c12 g 200), trivial⟩
  refine at_cond (b := (((!(decide (cntF f 200 ≤ 200))) || (!(decide (cntF g 200 ≤ 200)))) || (decide ((60 : Int) < ((nm.size : Nat) : Int))))) rfl rfl (fun hc35 => ?_) (fun hc35 => ?_)
  · have q35 := hc35
    (try simp only [brs] at q35)
    refine at_B [6] [] [] [(1000000, .any), (6, .tv (.bool true))] (b8_3 g f) 20 (by kernel_rfl) ?_ ?_
    · exact trivial
    refine at_ret ?_
    refine fin0 (.inr rfl) (.tv (.bool true)) (b8_3 g f) (.tv (.bool true)) (H2 := (b8_3 g f)) (by kernel_rfl) (by kernel_rfl) ?_
    refine Le.of_eq ?_
    first | rfl | (simp only [*])
  · have q35 := hc35
    (try simp only [brs] at q35)
    have hnf := (nF_le q35.1.1 (by decide) (by decide)).1
    have hnf2 := (nF_le q35.1.1 (by decide) (by decide)).2
    have hng := (nF_le q35.1.2 (by decide) (by decide)).1
    have hng2 := (nF_le q35.1.2 (by decide) (by decide)).2
    refine at_skip ?_
    change AT _ _ _ _
    refine at_B [2, 3, 4, 7, 8, 9] [.std, .ret (.tup [.tv (.int .i64 ((szF f).1)), .tv (.int .i64 ((szF f).2))])] [PureCall Tryd.prog 14 [agF f] (.tup [.tv (.int .i64 ((szF f).1)), .tv (.int .i64 ((szF f).2))])] [(1000000, .any), (2, .tv (.str nm)), (3, .ptr [0] 0), (4, .ptr [1] 0), (7, .tv (.bool true)), (8, .tv (.int .i64 ((szF f).1))), (9, .tv (.int .i64 ((szF f).2)))] (b8_3 g f) 25 (by kernel_rfl) ?_ ?_
    · exact ⟨(c14 f), trivial⟩
    refine at_B [2, 3, 4, 7, 8, 9, 10] [] [] [(1000000, .any), (2, .tv (.str nm)), (3, .ptr [0] 0), (4, .ptr [1] 0), (7, .tv (.bool true)), (8, .tv (.int .i64 ((szF f).1))), (9, .tv (.int .i64 ((szF f).2))), (10, .tv (.int .i64 1))] (b8_3 g f) 26 (by kernel_rfl) ?_ ?_
    · exact trivial
    refine at_B [2, 3, 4, 7, 8, 9, 10, 11] [] [] [(1000000, .any), (2, .tv (.str nm)), (3, .ptr [0] 0), (4, .ptr [1] 0), (7, .tv (.bool true)), (8, .tv (.int .i64 ((szF f).1))), (9, .tv (.int .i64 ((szF f).2))), (10, .tv (.int .i64 1)), (11, .tv (.int .i64 0))] (b8_3 g f) 27 (by kernel_rfl) ?_ ?_
    · exact trivial
    refine at_seq ?_
    refine at_B [2, 3, 4, 7, 8, 9, 10, 11, 12] [] [] [(1000000, .any), (2, .tv (.str nm)), (3, .ptr [0] 0), (4, .ptr [1] 0), (7, .tv (.bool true)), (8, .tv (.int .i64 ((szF f).1))), (9, .tv (.int .i64 ((szF f).2))), (10, .tv (.int .i64 1)), (11, .tv (.int .i64 0)), (12, .tv (.int .i64 0))] (b8_3 g f) 28 (by kernel_rfl) ?_ ?_
    · exact trivial
    refine at_block ?_
    refine at_loopR (X := Nat × Int × Int) 0 (fun ((i, a, e) : Nat × Int × Int) => [(1000000, .any), (2, .tv (.str nm)), (3, .ptr [0] 0), (4, .ptr [1] 0), (7, .tv (.bool true)), (8, .tv (.int .i64 ((szF f).1))), (9, .tv (.int .i64 ((szF f).2))), (10, .tv (.int .i64 a)), (11, .tv (.int .i64 e)), (12, .tv (.int .i64 ((i : Nat) : Int)))]) (fun ((i, a, e) : Nat × Int × Int) => (b8_3 g f)) (fun ((i, a, e) : Nat × Int × Int) => i ≤ f.ks.length ∧ szFs (f.ks.drop i) a e = szFs f.ks 1 0) (fun ((i, a, e) : Nat × Int × Int) => f.ks.length - i) (0, 1, 0) ?_ ?_ ?_
    · exact ⟨Nat.zero_le _, rfl⟩
    · exact rn_ok [([1], [1]), ([0], [0])] [] [2, 3, 4, 7, 8, 9, 10, 11, 12] (trivial) (by kernel_rfl)
    · rintro ⟨i, a, e⟩ hinv
      dsimp only at hinv ⊢
      obtain ⟨hx1, hx2⟩ := hinv
      refine at_seq ?_
      refine at_B [2, 3, 4, 7, 8, 9, 10, 11, 12, 46] [] [] [(1000000, .any), (2, .tv (.str nm)), (3, .ptr [0] 0), (4, .ptr [1] 0), (7, .tv (.bool true)), (8, .tv (.int .i64 ((szF f).1))), (9, .tv (.int .i64 ((szF f).2))), (10, .tv (.int .i64 a)), (11, .tv (.int .i64 e)), (12, .tv (.int .i64 ((i : Nat) : Int))), (46, .tv (.bool (decide (((i : Nat) : Int) < (((f.ks.map encF).length : Nat) : Int)))))] (b8_3 g f) 5 (by kernel_rfl) ?_ ?_
      · exact trivial
      refine at_cond (b := (decide (((i : Nat) : Int) < (((f.ks.map encF).length : Nat) : Int)))) rfl rfl (fun hc46 => ?_) (fun hc46 => ?_)
      · have q46 := hc46
        (try simp only [brs] at q46)
        refine at_skip ?_
        change AT _ _ _ _
        refine at_seq ?_
        refine at_block ?_
        refine at_B [2, 3, 4, 7, 8, 9, 10, 11, 12, 13, 14] [.std, .std, .std, .eq (.tv (.ptr (celF (f.ks.getD i Fm.z)))), .std, .ret (.tup [.tv (.int .i64 ((szF (f.ks.getD i Fm.z)).1)), .tv (.int .i64 ((szF (f.ks.getD i Fm.z)).2))])] [(0 ≤ ((i : Nat) : Int) ∧ ((i : Nat) : Int) < ((((f.ks.map encF) : List (List TV)).length : Nat) : Int)), (.tv (.ptr (rowAt (f.ks.map encF) ((i : Nat) : Int))) : AV) = .tv (.ptr (celF (f.ks.getD i Fm.z))), PureCall Tryd.prog 14 [agF (f.ks.getD i Fm.z)] (.tup [.tv (.int .i64 ((szF (f.ks.getD i Fm.z)).1)), .tv (.int .i64 ((szF (f.ks.getD i Fm.z)).2))])] [(1000000, .any), (2, .tv (.str nm)), (3, .ptr [0] 0), (4, .ptr [1] 0), (7, .tv (.bool true)), (8, .tv (.int .i64 ((szF f).1))), (9, .tv (.int .i64 ((szF f).2))), (10, .tv (.int .i64 a)), (11, .tv (.int .i64 e)), (12, .tv (.int .i64 ((i : Nat) : Int))), (13, .tv (.int .i64 ((szF (f.ks.getD i Fm.z)).1))), (14, .tv (.int .i64 ((szF (f.ks.getD i Fm.z)).2)))] (b8_3 g f) 16 (by kernel_rfl) ?_ ?_
        · exact ⟨by (try simp only [lns] at *); omega, congrArg (fun c => AV.tv (.ptr c)) (row_F f.ks ((i : Nat) : Int) (by (try simp only [brs, lns] at *); omega)), (c14 (f.ks.getD i Fm.z)), trivial⟩
        refine at_B [2, 3, 4, 7, 8, 9, 10, 11, 12, 14] [] [] [(1000000, .any), (2, .tv (.str nm)), (3, .ptr [0] 0), (4, .ptr [1] 0), (7, .tv (.bool true)), (8, .tv (.int .i64 ((szF f).1))), (9, .tv (.int .i64 ((szF f).2))), (10, .tv (.int .i64 (wr (a + ((szF (f.ks.getD i Fm.z)).1))))), (11, .tv (.int .i64 e)), (12, .tv (.int .i64 ((i : Nat) : Int))), (14, .tv (.int .i64 ((szF (f.ks.getD i Fm.z)).2)))] (b8_3 g f) 20 (by kernel_rfl) ?_ ?_
        · exact trivial
        refine at_Bl [2, 3, 4, 7, 8, 9, 10, 11, 12] [] [] [(1000000, .any), (2, .tv (.str nm)), (3, .ptr [0] 0), (4, .ptr [1] 0), (7, .tv (.bool true)), (8, .tv (.int .i64 ((szF f).1))), (9, .tv (.int .i64 ((szF f).2))), (10, .tv (.int .i64 (wr (a + ((szF (f.ks.getD i Fm.z)).1))))), (11, .tv (.int .i64 (mx e ((szF (f.ks.getD i Fm.z)).2)))), (12, .tv (.int .i64 ((i : Nat) : Int)))] (b8_3 g f) 24 (by kernel_rfl) ?_ ?_
        · exact trivial
        change AT _ _ _ _
        refine at_Bl [2, 3, 4, 7, 8, 9, 10, 11, 12] [.std, .eq (.tv (.int .i64 ((i + 1 : Nat) : Int)))] [(.tv (.int .i64 (wr (((i : Nat) : Int) + 1))) : AV) = .tv (.int .i64 ((i + 1 : Nat) : Int))] [(1000000, .any), (2, .tv (.str nm)), (3, .ptr [0] 0), (4, .ptr [1] 0), (7, .tv (.bool true)), (8, .tv (.int .i64 ((szF f).1))), (9, .tv (.int .i64 ((szF f).2))), (10, .tv (.int .i64 (wr (a + ((szF (f.ks.getD i Fm.z)).1))))), (11, .tv (.int .i64 (mx e ((szF (f.ks.getD i Fm.z)).2)))), (12, .tv (.int .i64 ((i + 1 : Nat) : Int)))] (b8_3 g f) 27 (by kernel_rfl) ?_ ?_
        · exact ⟨succ_av i (by (try simp only [lns] at *); omega), trivial⟩
        refine ⟨rfl, (i + 1, wr (a + ((szF (f.ks.getD i Fm.z)).1)), mx e ((szF (f.ks.getD i Fm.z)).2)), ?_, ?_, ?_⟩
        · (try dsimp only); omega
        · (try dsimp only); exact ⟨by omega, by rw [← hx2, drop_get f.ks i Fm.z (by omega), szFs]⟩
        · exact rn_ok [([1], [1]), ([0], [0])] [] [2, 3, 4, 7, 8, 9, 10, 11, 12] (trivial) (by kernel_rfl)
      · have q46 := hc46
        (try simp only [brs] at q46)
        have hse : szFs f.ks 1 0 = (a, e) := by rw [← hx2, List.drop_of_length_le (by omega), szFs]
        refine at_exit ?_
        change AT _ _ _ _
        refine at_B [2, 3, 4, 7, 8, 9, 10, 11, 15] [.std, .ret (.tup [.tv (.int .i64 ((szF g).1)), .tv (.int .i64 ((szF g).2))])] [PureCall Tryd.prog 14 [agF g] (.tup [.tv (.int .i64 ((szF g).1)), .tv (.int .i64 ((szF g).2))])] [(1000000, .any), (2, .tv (.str nm)), (3, .ptr [0] 0), (4, .ptr [1] 0), (7, .tv (.bool true)), (8, .tv (.int .i64 ((szF f).1))), (9, .tv (.int .i64 ((szF f).2))), (10, .tv (.int .i64 a)), (11, .tv (.int .i64 e)), (15, .tv (.int .i64 ((szF g).1)))] (b8_3 g f) 36 (by kernel_rfl) ?_ ?_
        · exact ⟨(c14 g), trivial⟩
        refine at_B [2, 3, 7, 8, 9, 10, 11, 15, 17] [.std, .std, .std, .ret (agF (expF nm g f))] [PureCall Tryd.prog 23 [agF f, .tv (.str nm), agF g] (agF (expF nm g f))] [(1000000, .any), (2, .tv (.str nm)), (3, .ptr [0] 0), (7, .tv (.bool true)), (8, .tv (.int .i64 ((szF f).1))), (9, .tv (.int .i64 ((szF f).2))), (10, .tv (.int .i64 a)), (11, .tv (.int .i64 e)), (15, .tv (.int .i64 ((szF g).1))), (17, .ptr [40] 0)] [(b8_2 nm g f), ([1], .row ((celF g).map .tv) false), ([0], .row ((celF f).map .tv) false)] 42 (by kernel_rfl) ?_ ?_
        · exact ⟨(c23 f nm g (by (try simp only [brs, lns] at *); omega)), trivial⟩
        refine at_B [2, 3, 7, 8, 9, 10, 11, 15, 18] [.std, .ret (.tup [.tv (.int .i64 ((szF (expF nm g f)).1)), .tv (.int .i64 ((szF (expF nm g f)).2))])] [PureCall Tryd.prog 14 [agF (expF nm g f)] (.tup [.tv (.int .i64 ((szF (expF nm g f)).1)), .tv (.int .i64 ((szF (expF nm g f)).2))])] [(1000000, .any), (2, .tv (.str nm)), (3, .ptr [0] 0), (7, .tv (.bool true)), (8, .tv (.int .i64 ((szF f).1))), (9, .tv (.int .i64 ((szF f).2))), (10, .tv (.int .i64 a)), (11, .tv (.int .i64 e)), (15, .tv (.int .i64 ((szF g).1))), (18, .tv (.int .i64 ((szF (expF nm g f)).1)))] [(b8_2 nm g f), ([1], .row ((celF g).map .tv) false), ([0], .row ((celF f).map .tv) false)] 49 (by kernel_rfl) ?_ ?_
        · exact ⟨(c14 (expF nm g f)), trivial⟩
        refine at_B [2, 3, 7, 8, 9, 10, 11, 15, 18, 20] [] [] [(1000000, .any), (2, .tv (.str nm)), (3, .ptr [0] 0), (7, .tv (.bool true)), (8, .tv (.int .i64 ((szF f).1))), (9, .tv (.int .i64 ((szF f).2))), (10, .tv (.int .i64 a)), (11, .tv (.int .i64 e)), (15, .tv (.int .i64 ((szF g).1))), (18, .tv (.int .i64 ((szF (expF nm g f)).1))), (20, .ptr [51] 0)] (b8_4 nm g f) 53 (by kernel_rfl) ?_ ?_
        · exact trivial
        refine at_B [2, 3, 7, 8, 9, 10, 11, 15, 18, 20, 21] [] [] [(1000000, .any), (2, .tv (.str nm)), (3, .ptr [0] 0), (7, .tv (.bool true)), (8, .tv (.int .i64 ((szF f).1))), (9, .tv (.int .i64 ((szF f).2))), (10, .tv (.int .i64 a)), (11, .tv (.int .i64 e)), (15, .tv (.int .i64 ((szF g).1))), (18, .tv (.int .i64 ((szF (expF nm g f)).1))), (20, .ptr [51] 0), (21, .tv (.bool ((!decide (f.op = (4 : Int))) || (decide ((((f.ks.map encF).length : Nat) : Int) = (0 : Int))))))] (b8_4 nm g f) 63 (by kernel_rfl) ?_ ?_
        · exact trivial
        refine at_seq ?_
        refine at_B [2, 3, 7, 8, 15, 18, 20, 21, 103] [.std, .std, .std, .std, .std, .std, .std, .std, .std, .std, .std, .std, .ret (.tv (.bool (sameF f f)))] [(((!decide ((szF f).1 = a)) || (!decide ((szF f).2 = wr (e + 1)))) = false) → PureCall Tryd.prog 21 [agF f, agF f] (.tv (.bool (sameF f f)))] [(1000000, .any), (2, .tv (.str nm)), (3, .ptr [0] 0), (7, .tv (.bool true)), (8, .tv (.int .i64 ((szF f).1))), (15, .tv (.int .i64 ((szF g).1))), (18, .tv (.int .i64 ((szF (expF nm g f)).1))), (20, .ptr [51] 0), (21, .tv (.bool ((!decide (f.op = (4 : Int))) || (decide ((((f.ks.map encF).length : Nat) : Int) = (0 : Int)))))), (103, .tv (.bool (((!decide ((szF f).1 = a)) || (!decide ((szF f).2 = wr (e + 1)))) || (!(sameF f f)))))] (b8_4 nm g f) 78 (by kernel_rfl) ?_ ?_
        · exact ⟨fun hg0 => (c21 f f), trivial⟩
        refine at_cond (b := (((!decide ((szF f).1 = a)) || (!decide ((szF f).2 = wr (e + 1)))) || (!(sameF f f)))) rfl rfl (fun hc103 => ?_) (fun hc103 => ?_)
        · have q103 := hc103
          (try simp only [brs] at q103)
          exact absurd q103 (by rw [szF_eq f, hse, sameF_reflA]; simp)
        · have q103 := hc103
          (try simp only [brs] at q103)
          refine at_skip ?_
          change AT _ _ _ _
          refine at_seq ?_
          refine at_B [2, 3, 7, 8, 15, 18, 20, 110] [.std, .std, .std, .std, .ret (.tv (.bool (plainF f)))] [((!((!decide (f.op = (4 : Int))) || (decide ((((f.ks.map encF).length : Nat) : Int) = (0 : Int))))) = false) → PureCall Tryd.prog 34 [agF f] (.tv (.bool (plainF f)))] [(1000000, .any), (2, .tv (.str nm)), (3, .ptr [0] 0), (7, .tv (.bool true)), (8, .tv (.int .i64 ((szF f).1))), (15, .tv (.int .i64 ((szF g).1))), (18, .tv (.int .i64 ((szF (expF nm g f)).1))), (20, .ptr [51] 0), (110, .tv (.bool ((!((!decide (f.op = (4 : Int))) || (decide ((((f.ks.map encF).length : Nat) : Int) = (0 : Int))))) || (!(plainF f)))))] (b8_4 nm g f) 85 (by kernel_rfl) ?_ ?_
          · exact ⟨fun hg0 => (c34 f), trivial⟩
          refine at_cond (b := ((!((!decide (f.op = (4 : Int))) || (decide ((((f.ks.map encF).length : Nat) : Int) = (0 : Int))))) || (!(plainF f)))) rfl rfl (fun hc110 => ?_) (fun hc110 => ?_)
          · have q110 := hc110
            (try simp only [brs] at q110)
            refine at_B [6] [] [] [(1000000, .any), (6, .tv (.bool true))] (b8_4 nm g f) 87 (by kernel_rfl) ?_ ?_
            · exact trivial
            refine at_ret ?_
            refine fin0 (.inr rfl) (.tv (.bool true)) (b8_4 nm g f) (.tv (.bool true)) (H2 := (b8_4 nm g f)) (by kernel_rfl) (by kernel_rfl) ?_
            refine Le.of_eq ?_
            first | rfl | (simp only [*])
          · have q110 := hc110
            (try simp only [brs] at q110)
            refine at_skip ?_
            change AT _ _ _ _
            refine at_D [none, none, none, none, some [[0]], none, none, none, none, none, none, none, none, none, some [[0]], none, some [[51]], none, some [[0]]] [0, 1, 3, 3, 3, 3, 51, 3, 131, 499, 1019, 2047, 4095, 8191, 16383, 16383, 16383, 131071, 16383, 524287, 1048575, 2097151] [6] [.std, .std, .std, .std, .std, .std, .ret (.tv (.int .i64 (timesF nm f))), .std, .std, .std, .std, .std, .std, .std, .std, .std, .std, .ret (agF (expF nm (Fm.mk 4 nm 0 0 []) f)), .std, .ret (.tv (.bool (sameF (expF nm (Fm.mk 4 nm 0 0 []) f) f)))] [(true = true) → PureCall Tryd.prog 35 [agF f, .tv (.str nm)] (.tv (.int .i64 (timesF nm f))), ((decide ((szF (expF nm g f)).1 = wr (((szF f).1) + (wr ((timesF nm f) * (wr (((szF g).1) - 1))))))) = true) → PureCall Tryd.prog 23 [agF f, .tv (.str nm), .agg [.tv (.int .i64 4), .tv (.str nm), .tv (.int .i64 0), .tv (.int .i64 0), .tv .nils]] (agF (expF nm (Fm.mk 4 nm 0 0 []) f)), ((decide ((szF (expF nm g f)).1 = wr (((szF f).1) + (wr ((timesF nm f) * (wr (((szF g).1) - 1))))))) = true) → PureCall Tryd.prog 21 [agF (expF nm (Fm.mk 4 nm 0 0 []) f), agF f] (.tv (.bool (sameF (expF nm (Fm.mk 4 nm 0 0 []) f) f)))] [(1000000, .any), (6, .tv (.bool ((decide ((szF (expF nm g f)).1 = wr (((szF f).1) + (wr ((timesF nm f) * (wr (((szF g).1) - 1))))))) && (sameF (expF nm (Fm.mk 4 nm 0 0 []) f) f))))] (b8_4 nm g f) 107 (by kernel_rfl) ?_ ?_
            · exact ⟨fun hg0 => (c35 f nm), fun hg0 => ((c23 f nm (Fm.mk 4 nm 0 0 []) (by (try simp only [brs, lns] at *); omega))).arg (.cons (Le.refl _) (.cons (Le.refl _) (.cons (Le.agg (.cons (Le.refl _) (.cons (Le.refl _) (.cons (Le.refl _) (.cons (Le.refl _) (.cons (Le.nils 5) .nil)))))) .nil))), fun hg0 => (c21 (expF nm (Fm.mk 4 nm 0 0 []) f) f), trivial⟩
            refine at_ret ?_
            refine fin0 (.inr rfl) (.tv (.bool ((decide ((szF (expF nm g f)).1 = wr (((szF f).1) + (wr ((timesF nm f) * (wr (((szF g).1) - 1))))))) && (sameF (expF nm (Fm.mk 4 nm 0 0 []) f) f)))) (b8_4 nm g f) (.tv (.bool ((decide ((szF (expF nm g f)).1 = wr (((szF f).1) + (wr ((timesF nm f) * (wr (((szF g).1) - 1))))))) && (sameF (expF nm (Fm.mk 4 nm 0 0 []) f) f)))) (H2 := (b8_4 nm g f)) (by kernel_rfl) (by kernel_rfl) ?_
            refine Le.of_eq ?_
            rw [sizes_fin hnf2 hng2 q110.2, exp_self f q110.2, sameF_reflA]; simp
end Go.Proofs.YtphmhelkojdlaaaDoor
namespace Go.Proofs.YtphmhelkojdlaaaDoor
open Go.RowKit Go.ChangeShapes Go.WideShapes Go.ChangeAt
set_option linter.unusedSimpArgs false
set_option linter.unusedVariables false
section
variable {H : Type} {enc : TypeId × Value → H} {W : World}
theorem rd_3 (fuel : Nat) : Rd enc Tryd.prog W fuel 3 (fun n : Int => [.int .i64 n]) := rd_int Tryd.underlying3
theorem rd_9 (fuel : Nat) : Rd enc Tryd.prog W fuel 9 (fun s : ByteArray => [.str s]) := rd_str Tryd.underlying9
theorem rde_24 : ∀ (fuel : Nat), Rd enc Tryd.prog W fuel 24 encF := by
  intro fuel
  induction fuel using Nat.strongRecOn with
  | _ fuel ih =>
  cases fuel with
  | zero => exact rd_zero
  | succ fuel =>
    intro cs x h
    obtain ⟨hl, hf⟩ := rd_fields Tryd.underlying24 h
    have rk : Rd enc Tryd.prog W fuel 22 (fun l : List Fm => [.sli 5 (l.map encF)]) := by
      cases fuel with
      | zero => exact rd_zero
      | succ fuel => exact rd_slice Tryd.underlying22 (by kernel_rfl) encF_len (ih fuel (by omega))
    obtain ⟨a0, r0⟩ := rd_field hf 0 3 0 1 rfl (by kernel_rfl) (rd_3 fuel)
    obtain ⟨a1, r1⟩ := rd_field hf 1 9 1 1 rfl (by kernel_rfl) (rd_9 fuel)
    obtain ⟨a2, r2⟩ := rd_field hf 2 3 2 1 rfl (by kernel_rfl) (rd_3 fuel)
    obtain ⟨a3, r3⟩ := rd_field hf 3 3 3 1 rfl (by kernel_rfl) (rd_3 fuel)
    obtain ⟨a4, r4⟩ := rd_field hf 4 22 4 1 rfl (by kernel_rfl) (rk)
    refine ⟨(Fm.mk a0 a1 a2 a3 a4), ?_⟩
    rw [encF_eq]
    exact CR.app (off := 0) (n := 1) r0 rfl (CR.app (off := 1) (n := 1) r1 rfl (CR.app (off := 2) (n := 1) r2 rfl (CR.app (off := 3) (n := 1) r3 rfl (CR.app (off := 4) (n := 1) r4 rfl (CR.fin (n := 5) (hl.trans (by kernel_rfl)))))))
theorem rd_24 (fuel : Nat) : Rd enc Tryd.prog W fuel 24 celF := rd_ext (rde_24 fuel) (fun a => ⟨a, (encF_eq a).symm⟩)
end
theorem own : ownKnob Tryd.prog.godebug = none := by kernel_rfl
theorem laidOut : laidOutB Tryd.prog = true := by kernel_rfl
abbrev laidL {H : Type} : List (String × DataW H) := [("math/bits.deBruijn32tab", Rows.laid_math_bits_deBruijn32tab), ("math/bits.deBruijn64tab", Rows.laid_math_bits_deBruijn64tab), ("internal/strconv.uint64pow10", Rows.laid_internal_strconv_uint64pow10), ("strconv.ErrRange", Rows.laid_strconv_ErrRange), ("strconv.ErrSyntax", Rows.laid_strconv_ErrSyntax)]
/-- The door's own heap meets the condition. -/
theorem door_met (os : Os) (args : Array Value) : laidMetH Tryd.prog laidL ((World.doorLaid Tryd.prog 4000 os).forCall (fun _ _ => 0) ⟨#[], args, []⟩).memory :=
  laidMetH_of_parts3 (fuel := 8) (laidMet_of_run' 8 (by kernel_rfl) (by kernel_rfl)) (by kernel_rfl) (by kernel_rfl)
end Go.Proofs.YtphmhelkojdlaaaDoor
namespace Go.Proofs.YtphmhelkojdlaaaDoor
open Go.RowKit Go.ChangeShapes Go.WideShapes Go.ChangeAt
set_option linter.unusedSimpArgs false
set_option linter.unusedVariables false
theorem law8_pure (f g : Fm) (nm : ByteArray) : PureCall Tryd.prog 8 [.agg ((celF f).map .tv), .agg ((celF g).map .tv), .tv (.str nm)] (.tv (.bool true)) := l8 f g nm
set_option maxRecDepth 100000 in
theorem lifted8 (os : Os) (started : os.Started) (H : Type) (enc : TypeId × Value → H) :
    ReturnsInHanded {} Tryd.checked os 8 .any (fun w args => (Rows.formulaSizesSpec.pre enc Tryd.prog Tryd.f8 [] false w args ∧ laidMetH Tryd.prog laidL w) ∧ sizedMet enc Tryd.prog Tryd.f8 (OpenSpec.ofChange Rows.formulaSizesSpec) false w args) (Rows.formulaSizesSpec.post enc Tryd.prog Tryd.f8 false true false false) := by
  refine returnsInHanded_of_change_and (C := Tryd.checked) (X := fun w _ => laidMetH Tryd.prog laidL w) (fun _ _ _ hh h => h.of_heap hh) own started (by kernel_rfl) Tryd.func8
    (ChangeSpec.witness_shaped (enc := enc) (C := Tryd.checked) (os := os) (X := fun w _ => laidMetH Tryd.prog laidL w) false (World.doorLaid Tryd.prog 4000 os) #[.agg #[.int .i64 0, .string ⟨#[]⟩, .int .i64 0, .int .i64 0, .slice none 0 0], .agg #[.int .i64 0, .string ⟨#[]⟩, .int .i64 0, .int .i64 0, .slice none 0 0], .string ⟨#[]⟩] 8 rfl (World.shaped_of_RefB (by kernel_rfl) (by kernel_rfl)) (by kernel_rfl) (by kernel_rfl) (by kernel_rfl) (door_met os _)) ?_
  intro W base args ds gs before hval0 hW _ _ hL _
  have hval : ∀ (j : Nat) t v, Tryd.f8.params[j]? = some t → args[j]? = some v → Value.okWide Tryd.prog W .any base t v := hval0
  have hW' := hW
  obtain ⟨p, q, hA0, hV, rfl, _, _⟩ := hW
  have hA : DataW.TrodAll enc Tryd.prog W 0 (fun _ => true) true Tryd.f8.params.toList args.toList ds p := hA0
  rw [Tryd.params8] at hA hval
  obtain ⟨v0, vs0, d0, ds0, p0, q0, hargs, rfl, rfl, h0, g0⟩ := trodAll_cons hA
  obtain ⟨v1, vs1, d1, ds1, p1, q1, rfl, rfl, rfl, h1, g1⟩ := trodAll_cons g0
  obtain ⟨v2, vs2, d2, ds2, p2, q2, rfl, rfl, rfl, h2, g2⟩ := trodAll_cons g1
  obtain ⟨rfl, rfl, rfl⟩ := trodAll_nil g2
  obtain rfl : args = #[v0, v1, v2] := by cases args; simp_all
  obtain ⟨rfl, rfl⟩ := trodVars_none hV
  obtain ⟨us0, rfl, _⟩ := okWide_struct Tryd.underlying24 (hval 0 24 v0 rfl rfl)
  obtain ⟨x0, y0⟩ := arg_agg (ι := fun _ => none) rd_24 h0
  obtain ⟨us1, rfl, _⟩ := okWide_struct Tryd.underlying24 (hval 1 24 v1 rfl rfl)
  obtain ⟨x1, y1⟩ := arg_agg (ι := fun _ => none) rd_24 h1
  obtain ⟨z2, rfl⟩ := okWide_string Tryd.underlying9 (hval 2 9 v2 rfl rfl)
  obtain ⟨x2, y2⟩ := arg_one (ι := fun _ => none) rfl rd_9 h2
  clear hA0 hval0
  simp only [List.append_nil] at hW'
  have hlt : ∀ x ∈ p0 ++ p1 ++ p2, x.block < W.heap.size := fun x hx => by simpa using hW'.lt x (by simpa using hx)
  refine (law_calls (P := Tryd.prog) (b := true) (law8_pure x0 x1 x2) (VRs.cons y0 (VRs.cons y1 (VRs.cons y2 (VRs.nil _ _))))).mono fun e W' ⟨he, hb⟩ => ?_
  subst he
  refine ⟨_, rfl, _, _, _, [], _, [], hW', trodAll_mk1 (shut_bool Tryd.underlying4 true), (trodAll_cons_mk (Below.trod laidOut (by kernel_rfl) (of_decide_eq_true (by kernel_rfl)) h0 hb (fun x hx => hlt x (by simp [hx]))) (trodAll_cons_mk (Below.trod laidOut (by kernel_rfl) (of_decide_eq_true (by kernel_rfl)) h1 hb (fun x hx => hlt x (by simp [hx]))) (trodAll_cons_mk (Below.trod laidOut (by kernel_rfl) (of_decide_eq_true (by kernel_rfl)) h2 hb (fun x hx => hlt x (by simp [hx]))) trodAll_mk0))), rfl, hb.frame _, fun h => by cases h⟩
theorem proved8 : Rows.FormulaSizesSaid :=
  OpenClaim.holds_of_wide 8 Tryd.f8 rfl rfl rfl rfl rfl rfl rfl ⟨rfl, rfl, rfl, rfl, rfl⟩ rfl rfl rfl rfl rfl (by kernel_rfl) Tryd.func8 (by kernel_rfl)
    (of_decide_eq_true (by kernel_rfl)) (by unfold Func.isWrapper; first | (rw [if_pos (by decide +kernel)]; kernel_rfl) | (rw [if_neg (by decide +kernel)]; exact ⟨rfl, rfl⟩))
    (fun os started H enc _ => lifted8 os started H enc)
theorem card8 : Rows.FormulaSizesCardSaid :=
  Claim7.holds_tied_plain_at .later [] _ true (true, "4a36700912013bb2f555b7a01611f8226529d3d0a19222fa014a5d6bd73064b1") true
    proved8 (fun _ h => by cases h) (by kernel_rfl) (fun _ h => by cases h) formulaSizes_row_tie rfl ⟨rfl, rfl⟩ (by kernel_rfl) rfl
    (fun f fn hf hfn => by
      obtain rfl : f = 8 := Option.some.inj ((show Tryd.prog.funcNamed "pandect/pandectlaw07.FormulaSizes" = some 8 by kernel_rfl).symm.trans hf) |>.symm
      obtain rfl : fn = Tryd.f8 := (Option.some.inj (Tryd.func8.symm.trans hfn)).symm
      exact ⟨by kernel_rfl, fun j t ht => by
        rw [Tryd.params8] at ht
        have hm : t ∈ [24, 24, 9] := by simpa using Array.mem_of_getElem? ht
        have hall : ([24, 24, 9].all fun u => !Tryd.prog.wantsStandIn u) = true := by kernel_rfl
        exact (show Tryd.prog.wantsStandIn t = false by simpa using List.all_eq_true.1 hall t hm)⟩)
    (by kernel_rfl)
#print axioms card8
end Go.Proofs.YtphmhelkojdlaaaDoor
