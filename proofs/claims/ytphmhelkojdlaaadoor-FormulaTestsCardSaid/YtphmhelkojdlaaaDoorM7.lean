/- Part M7 of the proof. -/
import Derived.Test.YtphmhelkojdlaaaDoorRows
import Derived.LaidMore
import Derived.Stop.Joined
import Derived.Test.YtphmhelkojdlaaaDoorCards
import Derived.Test.YtphmhelkojdlaaaDoorTie
import Derived.Test.YtphmhelkojdlaaaDoorM6
namespace Go.Proofs.YtphmhelkojdlaaaDoor
open Go.RowKit
set_option linter.unusedSimpArgs false
set_option linter.unusedVariables false
theorem mx_or (a b : Int) : mx a b = a ∧ b ≤ a ∨ mx a b = b ∧ a ≤ b := by
  unfold mx
  split
  · exact .inr ⟨rfl, by omega⟩
  · exact .inl ⟨rfl, by omega⟩
theorem szFs_ok {l : List Fm} (h : ∀ k ∈ l, nF k ≤ 1000000 → (szF k).1 = (nF k : Int) ∧ 1 ≤ (szF k).2 ∧ (szF k).2 ≤ (nF k : Int)) :
    ∀ (a d : Int), 1 ≤ a → a + (nFs l : Int) ≤ 1000001 → 0 ≤ d → d ≤ 1000000 → (szFs l a d).1 = a + (nFs l : Int) ∧ d ≤ (szFs l a d).2 ∧ (szFs l a d).2 ≤ d + (nFs l : Int) := by
  induction l with
  | nil => intro a d h1 h2 h3 h4; simp only [szFs, nFs]; omega
  | cons k r ih =>
    intro a d h1 h2 h3 h4
    simp only [nFs] at h2
    have hp := nF_pos k
    obtain ⟨a1, a2, a3⟩ := h k (by simp) (by omega)
    simp only [szFs, nFs]
    have hw : wr (a + (szF k).1) = a + (szF k).1 := wr_fit _ ⟨by omega, by omega⟩
    rw [hw, a1]
    have hm := mx_or d (szF k).2
    obtain ⟨b1, b2, b3⟩ := ih (fun x hx => h x (by simp [hx])) (a + (nF k : Int)) (mx d (szF k).2) (by omega) (by omega) (by omega) (by omega)
    refine ⟨by omega, by omega, by omega⟩
theorem szF_ok : ∀ f : Fm, nF f ≤ 1000000 → (szF f).1 = (nF f : Int) ∧ 1 ≤ (szF f).2 ∧ (szF f).2 ≤ (nF f : Int) := by
  refine Fm.ind (fun f ih => ?_)
  intro hn
  rw [nF_eq] at hn ⊢
  rw [szF_eq]
  obtain ⟨a, b, c⟩ := szFs_ok ih 1 0 (by omega) (by omega) (by omega) (by omega)
  simp only
  rw [wr_fit _ ⟨by omega, by omega⟩]
  omega
/-- A formula with at most k nodes and e levels, of which every node is well-formed. -/
structure Gd (d : Dm) (k e : Int) (f : Fm) : Prop where
  n : (nF f : Int) ≤ k
  e : (szF f).2 ≤ e
  z : errF (oneR d [] true) f = 0
theorem errFs_all {e : Fm → Int} {l : List Fm} (h : ∀ k ∈ l, errF e k = 0) : errFs e l = 0 := by
  induction l with
  | nil => rfl
  | cons k r ih => simp only [errFs, h k (by simp), ih (fun x hx => h x (by simp [hx]))]; rfl
theorem errF_mk {e : Fm → Int} {f : Fm} (h : e f = 0) (hk : ∀ k ∈ f.ks, errF e k = 0) : errF e f = 0 := by
  rw [errF_eq, h, errFs_all hk]; rfl
theorem large_iff {f : Fm} (hn : nF f ≤ 1000000) : largeR f = false ↔ (nF f : Int) ≤ 200 ∧ (szF f).2 ≤ 20 := by
  have := szF_ok f hn
  unfold largeR
  rw [Bool.or_eq_false_iff, decide_eq_false_iff_not, decide_eq_false_iff_not, this.1]
  omega
theorem Gd.check {d : Dm} {k e : Int} {f : Fm} (h : Gd d k e f) (hk : k ≤ 200) (he : e ≤ 20) : checkA f d = 0 := by
  have h1 := h.n
  have h2 := h.e
  have hl : largeR f = false := (large_iff (by omega)).2 ⟨by omega, by omega⟩
  unfold checkA
  rw [hl, h.z]; rfl
theorem Gd.hold {d : Dm} {k e : Int} {f : Fm} (h : Gd d k e f) (hk : k ≤ 200) (he : e ≤ 20) {c : List Int} (hc : fitsD d c = true) (l : List ByteArray) : holdP f d c l = valF d c l f := by
  unfold holdP
  rw [h.check hk he, hc]; rfl
/-! ### Connectives -/
theorem one_op {d : Dm} {f : Fm} (h : formedR f = true) (h3 : ¬ f.op = 3) (h4 : ¬ f.op = 4) : oneR d [] true f = 0 := by
  refine one_0 (by rw [h]; rfl) ?_ ?_
  · unfold rangeE; rw [decide_eq_false h3]; rfl
  · unfold nameE; rw [decide_eq_false h3, decide_eq_false h4]; rfl
theorem Gd.one {d : Dm} {k e : Int} {f : Fm} (h : Gd d k e f) (hk : k ≤ 1000) (he : e ≤ 1000) : Gd d (k + 1) (e + 1) (.mk 5 ⟨#[]⟩ 0 0 [f]) := by
  have hn := h.n
  have hs := szF_ok f (by omega)
  have he' := h.e
  refine ⟨?_, ?_, errF_mk (one_op (by rfl) (by show ¬ (5 : Int) = 3; decide) (by show ¬ (5 : Int) = 4; decide)) (fun x hx => ?_)⟩
  · simp only [nF, nFs]; omega
  · rw [szF_eq]
    simp only [Fm.ks, szFs]
    have := mx_or 0 (szF f).2
    rw [wr_fit _ ⟨by omega, by omega⟩]; omega
  · simp only [Fm.ks, List.mem_singleton] at hx; subst hx; exact h.z
end Go.Proofs.YtphmhelkojdlaaaDoor
namespace Go.Proofs.YtphmhelkojdlaaaDoor
open Go.RowKit
set_option linter.unusedSimpArgs false
set_option linter.unusedVariables false
theorem TLs.of_eq {l l' : List TV} (h : l = l') : TLs l l' := h ▸ TLs.refl l
theorem formedR_mk (o : Int) (nm : ByteArray) (cm n : Int) (ks : List Fm) : formedR (.mk o nm cm n ks) = bif (bif (decide (o = (1 : Int))) then (decide (o = (1 : Int))) else (decide (o = (2 : Int)))) then (((((decide (nm = ⟨#[]⟩)) && (decide (cm = (0 : Int)))) && (decide (n = (0 : Int)))) && (decide ((((ks.map encF).length : Nat) : Int) = (0 : Int))))) else (bif (decide (o = (3 : Int))) then (((((decide ((1 : Int) ≤ cm)) && (decide (cm ≤ (6 : Int)))) && (decide ((((ks.map encF).length : Nat) : Int) = (0 : Int)))) && (nameP nm))) else (bif (decide (o = (4 : Int))) then (((((decide (cm = (0 : Int))) && (decide (n = (0 : Int)))) && (decide ((((ks.map encF).length : Nat) : Int) = (0 : Int)))) && (nameP nm))) else (bif (decide (o = (5 : Int))) then (((((decide (nm = ⟨#[]⟩)) && (decide (cm = (0 : Int)))) && (decide (n = (0 : Int)))) && (decide ((((ks.map encF).length : Nat) : Int) = (1 : Int))))) else (bif (bif (decide (o = (6 : Int))) then (decide (o = (6 : Int))) else (decide (o = (7 : Int)))) then (((((decide (nm = ⟨#[]⟩)) && (decide (cm = (0 : Int)))) && (decide (n = (0 : Int)))) && (decide ((2 : Int) ≤ (((ks.map encF).length : Nat) : Int))))) else (false))))) := rfl
end Go.Proofs.YtphmhelkojdlaaaDoor
namespace Go.Proofs.YtphmhelkojdlaaaDoor
open Go.RowKit
set_option linter.unusedSimpArgs false
set_option linter.unusedVariables false
def encB (b : Bool) : List TV := [.bool b]
theorem valid_idx : ∀ (l : List Fc) (m : Mb) (o i : Nat), validG m l = true → i < l.length → mgetB m (l.getD i Fc.z).nm = false ∧ nameI (l.getD i Fc.z).nm = true ∧ idxF (fcN (l.getD i Fc.z).nm) l o = ((o + i : Nat) : Int) := by
  intro l
  induction l with
  | nil => intro m o i _ h; exact absurd h (Nat.not_lt_zero _)
  | cons c r ih =>
    intro m o i hv hi
    rw [validG] at hv
    cases hb : badFc m c with
    | true => rw [hb] at hv; cases hv
    | false =>
      rw [hb] at hv
      have hv : validG (mputB m c.nm true) r = true := hv
      have hb := hb
      unfold badFc at hb
      simp only [Bool.or_eq_false_iff] at hb
      obtain ⟨⟨_, hn⟩, hm⟩ := hb
      cases i with
      | zero =>
        rw [List.getD_cons_zero]
        refine ⟨hm, by simpa using hn, ?_⟩
        rw [idxF]
        unfold fcN
        rw [decide_eq_true rfl]; simp
      | succ i =>
        rw [List.getD_cons_succ]
        obtain ⟨a1, a2, a3⟩ := ih (mputB m c.nm true) (o + 1) i hv (by simpa using hi)
        rw [mput_get] at a1
        by_cases e : c.nm = (r.getD i Fc.z).nm
        · rw [if_pos e] at a1; cases a1
        · rw [if_neg e] at a1
          refine ⟨a1, a2, ?_⟩
          rw [idxF, a3]
          unfold fcN
          rw [decide_eq_false e]
          simp only [cond_false]
          omega
theorem nameI_P {s : ByteArray} (h : nameI s = true) : nameP s = true := by
  unfold nameI at h
  unfold nameP
  simp only [Bool.and_eq_true, Bool.not_eq_true', decide_eq_true_eq, decide_eq_false_iff_not] at h ⊢
  obtain ⟨h1, h2, h3⟩ := h
  have hs : 0 < s.size := by
    rcases Nat.eq_zero_or_pos s.size with e | e
    · exact absurd (ByteArray.ext (Array.eq_empty_of_size_eq_zero e)) h2
    · exact e
  refine ⟨?_, by omega, h3⟩
  rw [List.all_eq_true] at h1 ⊢
  intro i hi
  have := h1 i hi
  simp only [Bool.not_eq_true'] at this ⊢
  unfold badI at this
  unfold badN
  cases hl : letterC (sbyte s i) with
  | true => simp
  | false =>
    rw [hl] at this
    simp only [Bool.not_false, Bool.true_and, Bool.or_eq_false_iff, decide_eq_false_iff_not, Bool.not_eq_false', Bool.or_eq_true, Bool.and_eq_true, decide_eq_true_eq] at this ⊢
    obtain ⟨t1, t2⟩ := this
    refine ⟨t1, ?_⟩
    simp only [Bool.and_eq_false_iff, Bool.not_eq_false', decide_eq_true_eq, Bool.or_eq_false_iff, decide_eq_false_iff_not]
    omega
theorem test_check {d : Dm} {i : Nat} {m n : Int} (hv : validD d = true) (hi : i < d.fs.length) (hn : 0 ≤ n ∧ n ≤ 1000000) : decide (checkA (.mk 3 (d.fs.getD i Fc.z).nm m n []) d = 0) = (decide (1 ≤ m) && decide (m ≤ 6)) := by
  unfold validD at hv
  rw [Bool.and_eq_true] at hv
  obtain ⟨_, a2, a3⟩ := valid_idx d.fs [] 0 i hv.1 hi
  have hl : largeR (.mk 3 (d.fs.getD i Fc.z).nm m n []) = false := by
    have e1 : szF (.mk 3 (d.fs.getD i Fc.z).nm m n []) = (1, 1) := by rw [szF_eq]; rfl
    refine (large_iff ?_).2 ⟨?_, ?_⟩
    · simp only [nF, nFs]; omega
    · simp only [nF, nFs]; omega
    · rw [e1]; decide
  have hf : formedR (.mk 3 (d.fs.getD i Fc.z).nm m n []) = (decide (1 ≤ m) && decide (m ≤ 6)) := by
    rw [formedR_mk, nameI_P a2]
    simp
  unfold checkA
  rw [hl, errF_eq]
  simp only [cond_false, Fm.ks, errFs]
  have hr : rangeE (.mk 3 (d.fs.getD i Fc.z).nm m n []) = false := by
    show (decide ((3 : Int) = 3) && (decide (n < 0) || decide (1000000 < n))) = false
    rw [decide_eq_false (show ¬ n < 0 by omega), decide_eq_false (show ¬ 1000000 < n by omega)]; rfl
  have hz : nameE d [] true (.mk 3 (d.fs.getD i Fc.z).nm m n []) = false := by
    have e1 : decide (idxF (fcN (d.fs.getD i Fc.z).nm) d.fs 0 < 0) = false := decide_eq_false (by rw [a3]; omega)
    show ((decide ((3 : Int) = 3) && decide (idxF (fcN (d.fs.getD i Fc.z).nm) d.fs 0 < 0)) || _) = false
    rw [e1]; rfl
  have ho : oneR d [] true (.mk 3 (d.fs.getD i Fc.z).nm m n []) = bif (decide (1 ≤ m) && decide (m ≤ 6)) then 0 else 1 := by
    unfold oneR
    rw [hf, hr, hz]
    generalize (decide (1 ≤ m) && decide (m ≤ 6)) = b
    cases b <;> rfl
  rw [ho]
  cases decide (1 ≤ m) && decide (m ≤ 6) <;> rfl
theorem test_hold {d : Dm} {c : List Int} {l : List ByteArray} {i : Nat} {m n : Int} (hv : validD d = true) (hc : fitsD d c = true) (hi : i < d.fs.length) (hn : 0 ≤ n ∧ n ≤ 1000000) : holdP (.mk 3 (d.fs.getD i Fc.z).nm m n []) d c l = ((decide (1 ≤ m) && decide (m ≤ 6)) && cmpR (c.getD i 0) m n) := by
  unfold holdP
  rw [test_check hv hi hn, hc, valF_eq]
  unfold validD at hv
  rw [Bool.and_eq_true] at hv
  obtain ⟨_, a2, a3⟩ := valid_idx d.fs [] 0 i hv.1 hi
  simp only [Bool.and_true]
  show (_ && cmpR (c.getD (idxF (fcN (d.fs.getD i Fc.z).nm) d.fs 0).toNat 0) m n) = _
  rw [a3, Nat.zero_add, Int.toNat_natCast]
theorem tests_all {d : Dm} {c : List Int} {l : List ByteArray} {i k : Nat} {n : Int} (hv : validD d = true) (hc : fitsD d c = true) (hi : i < d.fs.length) (hn : 0 ≤ n ∧ n ≤ 1000000) (hk : k < 6) : holdP (.mk 3 (d.fs.getD i Fc.z).nm ((k + 1 : Nat) : Int) n []) d c l = [decide (c.getD i 0 = n), !decide (c.getD i 0 = n), decide (c.getD i 0 < n), decide (c.getD i 0 ≤ n), decide (n < c.getD i 0), decide (n ≤ c.getD i 0)].getD k false := by
  rw [test_hold hv hc hi hn]
  have : k = 0 ∨ k = 1 ∨ k = 2 ∨ k = 3 ∨ k = 4 ∨ k = 5 := by omega
  rcases this with rfl | rfl | rfl | rfl | rfl | rfl <;> rfl
end Go.Proofs.YtphmhelkojdlaaaDoor
namespace Go.Proofs.YtphmhelkojdlaaaDoor
open Go.RowKit
set_option maxRecDepth 10000
set_option linter.unusedSimpArgs false
set_option linter.unusedVariables false
abbrev b5_l1 (d : Dm) (w : Int) (c : (List Int)) (n : Int) : Fm := (Fm.mk 3 (d.fs.getD ((wr (w)).tmod (((c.map encI).length : Nat) : Int)).toNat Fc.z).nm 7 n [])
abbrev b5_l2 (d : Dm) (w : Int) (c : (List Int)) (k : Nat) (n : Int) : Fm := (Fm.mk 3 (d.fs.getD ((wr (w)).tmod (((c.map encI).length : Nat) : Int)).toNat Fc.z).nm ((k + 1 : Nat) : Int) n [])
abbrev b5_l3 (d : Dm) (w : Int) (c : (List Int)) (n : Int) : Fm := (Fm.mk 3 (d.fs.getD ((wr (w)).tmod (((c.map encI).length : Nat) : Int)).toNat Fc.z).nm 0 n [])
theorem l5 (d : Dm) (c : (List Int)) (w : Int) (n : Int) (hw : 0 ≤ w ∧ w ≤ 255) : PureCall Tryd.prog 5 [agD d, .tv (.sli 1 (c.map encI)), .tv (.int .u8 w), .tv (.int .i64 n)] (.tv (.bool true)) := by
  refine walk0 (fn := Tryd.f5) [.tmp 8] Tryd.func5 rfl (by kernel_rfl) rfl (by kernel_rfl) (by kernel_rfl) ?_
  change AT _ _ _ ⟨[(0, agD d), (1, .tv (.sli 1 (c.map encI))), (2, .tv (.int .u8 w)), (3, .tv (.int .i64 n))], [], [], 0⟩
  refine at_agD 0 rfl (fun hlen => ?_)
  refine at_B [1, 2, 3, 4] [] [] [(1000000, .any), (1, .tv (.sli 1 (c.map encI))), (2, .tv (.int .u8 w)), (3, .tv (.int .i64 n)), (4, .ptr [0] 0)] [([0], .row ((celD d).map .tv) false)] 2 (by kernel_rfl) ?_ ?_
  · exact trivial
  refine at_B [1, 2, 3, 4, 9] [.ret (.tv (.bool true))] [PureCall Tryd.prog 11 [] (.tv (.bool true))] [(1000000, .any), (1, .tv (.sli 1 (c.map encI))), (2, .tv (.int .u8 w)), (3, .tv (.int .i64 n)), (4, .ptr [0] 0), (9, .tv (.bool true))] [([0], .row ((celD d).map .tv) false)] 4 (by kernel_rfl) ?_ ?_
  · exact ⟨(c11), trivial⟩
  refine at_seq ?_
  refine at_B [1, 2, 3, 4, 9, 41] [.std, .std, .ret (.tv (.bool (fewD d c ([])))), .std, .std, .std, .ret (.tv (.bool (validD d))), .std, .std, .std, .std, .std, .ret (.tv (.bool (fitsD d c)))] [PureCall Tryd.prog 13 [agD d, .tv (.sli 1 (c.map encI)), .tv .nils] (.tv (.bool (fewD d c ([])))), ((!(fewD d c ([]))) = false) → PureCall Tryd.prog 25 [agD d] (.tv (.bool (validD d))), (((!(fewD d c ([]))) || (!(validD d))) = false) → PureCall Tryd.prog 30 [agD d, .tv (.sli 1 (c.map encI))] (.tv (.bool (fitsD d c)))] [(1000000, .any), (1, .tv (.sli 1 (c.map encI))), (2, .tv (.int .u8 w)), (3, .tv (.int .i64 n)), (4, .ptr [0] 0), (9, .tv (.bool true)), (41, .tv (.bool ((((((!(fewD d c ([]))) || (!(validD d))) || (!(fitsD d c))) || (decide ((((c.map encI).length : Nat) : Int) = (0 : Int)))) || (decide (n < (0 : Int)))) || (decide ((1000000 : Int) < n)))))] [([0], .row ((celD d).map .tv) false)] 32 (by kernel_rfl) ?_ ?_
  · exact ⟨((c13 d c [])).arg (.cons (Le.refl _) (.cons (Le.refl _) (.cons (Le.nils 1) .nil))), fun hg0 => (c25 d), fun hg0 => (c30 d c), trivial⟩
  refine at_cond (b := ((((((!(fewD d c ([]))) || (!(validD d))) || (!(fitsD d c))) || (decide ((((c.map encI).length : Nat) : Int) = (0 : Int)))) || (decide (n < (0 : Int)))) || (decide ((1000000 : Int) < n)))) rfl rfl (fun hc41 => ?_) (fun hc41 => ?_)
  · have q41 := hc41
    (try simp only [brs] at q41)
    refine at_B [8] [] [] [(1000000, .any), (8, .tv (.bool true))] [([0], .row ((celD d).map .tv) false)] 34 (by kernel_rfl) ?_ ?_
    · exact trivial
    refine at_ret ?_
    refine fin0 (.inr rfl) (.tv (.bool true)) [([0], .row ((celD d).map .tv) false)] (.tv (.bool true)) (H2 := [([0], .row ((celD d).map .tv) false)]) (by kernel_rfl) (by kernel_rfl) ?_
    refine Le.of_eq ?_
    first | rfl | (simp only [*])
  · have q41 := hc41
    (try simp only [brs] at q41)
    have hwr : wr w = w := wr_fit _ ⟨by omega, by omega⟩
    have hcl : 0 < c.length := by have := q41.1.1.2; (try simp only [List.length_map] at this); omega
    have hm0 : 0 ≤ (wr w).tmod (((c.map encI).length : Nat) : Int) := Int.tmod_nonneg _ (by rw [hwr]; omega)
    have hm1 : (wr w).tmod (((c.map encI).length : Nat) : Int) < (c.length : Int) := by have := Int.tmod_lt_of_pos (wr w) (b := (((c.map encI).length : Nat) : Int)) (by rw [List.length_map]; omega); rw [List.length_map] at this ⊢; exact this
    have hfl := fitsD_len q41.1.1.1.2
    have hil : ((wr w).tmod (((c.map encI).length : Nat) : Int)).toNat < d.fs.length := by omega
    refine at_skip ?_
    change AT _ _ _ _
    refine at_B [1, 3, 4, 9, 10] [] [(((c.map encI).length : Nat) : Int) ≠ 0] [(1000000, .any), (1, .tv (.sli 1 (c.map encI))), (3, .tv (.int .i64 n)), (4, .ptr [0] 0), (9, .tv (.bool true)), (10, .tv (.int .i64 ((wr (w)).tmod (((c.map encI).length : Nat) : Int))))] [([0], .row ((celD d).map .tv) false)] 38 (by kernel_rfl) ?_ ?_
    · exact ⟨by (try simp only [lns] at *); omega, trivial⟩
    refine at_D [none, none, none, some [], none, none, none, none, none, some [], none, none, none, none, none, some [], none, none, none, none, none, some [], none, none, none, none, none, some [], none, none, none, none, none, some []] [0, 0, 3, 7, 0, 31, 0, 0, 192, 448, 0, 1984, 0, 0, 12288, 28672, 0, 126976, 0, 0, 786432, 1835008, 0, 8126464, 0, 0, 50331648, 117440512, 0, 520093696, 0, 0, 3221225472, 7516192768, 0, 33285996544, 68719476735, 137438953471] [1, 3, 4, 9, 10, 11] [.std, .std, .eq (.tv (.ptr [.int .i64 (c.getD ((wr (w)).tmod (((c.map encI).length : Nat) : Int)).toNat 0)])), .std, .std, .std, .std, .std, .eq (.tv (.ptr [.int .i64 (c.getD ((wr (w)).tmod (((c.map encI).length : Nat) : Int)).toNat 0)])), .std, .std, .std, .std, .std, .eq (.tv (.ptr [.int .i64 (c.getD ((wr (w)).tmod (((c.map encI).length : Nat) : Int)).toNat 0)])), .std, .std, .std, .std, .std, .eq (.tv (.ptr [.int .i64 (c.getD ((wr (w)).tmod (((c.map encI).length : Nat) : Int)).toNat 0)])), .std, .std, .std, .std, .std, .eq (.tv (.ptr [.int .i64 (c.getD ((wr (w)).tmod (((c.map encI).length : Nat) : Int)).toNat 0)])), .std, .std, .std, .std, .std, .eq (.tv (.ptr [.int .i64 (c.getD ((wr (w)).tmod (((c.map encI).length : Nat) : Int)).toNat 0)])), .std, .std, .std, .eq (.tv (.sli 1 (([(decide ((c.getD ((wr (w)).tmod (((c.map encI).length : Nat) : Int)).toNat 0) = n)), (!decide ((c.getD ((wr (w)).tmod (((c.map encI).length : Nat) : Int)).toNat 0) = n)), (decide ((c.getD ((wr (w)).tmod (((c.map encI).length : Nat) : Int)).toNat 0) < n)), (decide ((c.getD ((wr (w)).tmod (((c.map encI).length : Nat) : Int)).toNat 0) ≤ n)), (decide (n < (c.getD ((wr (w)).tmod (((c.map encI).length : Nat) : Int)).toNat 0))), (decide (n ≤ (c.getD ((wr (w)).tmod (((c.map encI).length : Nat) : Int)).toNat 0)))] : List _).map encB)))] [(0 ≤ ((wr (w)).tmod (((c.map encI).length : Nat) : Int)) ∧ ((wr (w)).tmod (((c.map encI).length : Nat) : Int)) < ((((c.map encI) : List (List TV)).length : Nat) : Int)), (.tv (.ptr (rowAt (c.map encI) ((wr (w)).tmod (((c.map encI).length : Nat) : Int)))) : AV) = .tv (.ptr [.int .i64 (c.getD ((wr (w)).tmod (((c.map encI).length : Nat) : Int)).toNat 0)]), (0 ≤ ((wr (w)).tmod (((c.map encI).length : Nat) : Int)) ∧ ((wr (w)).tmod (((c.map encI).length : Nat) : Int)) < ((((c.map encI) : List (List TV)).length : Nat) : Int)), (.tv (.ptr (rowAt (c.map encI) ((wr (w)).tmod (((c.map encI).length : Nat) : Int)))) : AV) = .tv (.ptr [.int .i64 (c.getD ((wr (w)).tmod (((c.map encI).length : Nat) : Int)).toNat 0)]), (0 ≤ ((wr (w)).tmod (((c.map encI).length : Nat) : Int)) ∧ ((wr (w)).tmod (((c.map encI).length : Nat) : Int)) < ((((c.map encI) : List (List TV)).length : Nat) : Int)), (.tv (.ptr (rowAt (c.map encI) ((wr (w)).tmod (((c.map encI).length : Nat) : Int)))) : AV) = .tv (.ptr [.int .i64 (c.getD ((wr (w)).tmod (((c.map encI).length : Nat) : Int)).toNat 0)]), (0 ≤ ((wr (w)).tmod (((c.map encI).length : Nat) : Int)) ∧ ((wr (w)).tmod (((c.map encI).length : Nat) : Int)) < ((((c.map encI) : List (List TV)).length : Nat) : Int)), (.tv (.ptr (rowAt (c.map encI) ((wr (w)).tmod (((c.map encI).length : Nat) : Int)))) : AV) = .tv (.ptr [.int .i64 (c.getD ((wr (w)).tmod (((c.map encI).length : Nat) : Int)).toNat 0)]), (0 ≤ ((wr (w)).tmod (((c.map encI).length : Nat) : Int)) ∧ ((wr (w)).tmod (((c.map encI).length : Nat) : Int)) < ((((c.map encI) : List (List TV)).length : Nat) : Int)), (.tv (.ptr (rowAt (c.map encI) ((wr (w)).tmod (((c.map encI).length : Nat) : Int)))) : AV) = .tv (.ptr [.int .i64 (c.getD ((wr (w)).tmod (((c.map encI).length : Nat) : Int)).toNat 0)]), (0 ≤ ((wr (w)).tmod (((c.map encI).length : Nat) : Int)) ∧ ((wr (w)).tmod (((c.map encI).length : Nat) : Int)) < ((((c.map encI) : List (List TV)).length : Nat) : Int)), (.tv (.ptr (rowAt (c.map encI) ((wr (w)).tmod (((c.map encI).length : Nat) : Int)))) : AV) = .tv (.ptr [.int .i64 (c.getD ((wr (w)).tmod (((c.map encI).length : Nat) : Int)).toNat 0)]), (.tv (.sli 1 [[.bool (decide ((c.getD ((wr (w)).tmod (((c.map encI).length : Nat) : Int)).toNat 0) = n))], [.bool (!decide ((c.getD ((wr (w)).tmod (((c.map encI).length : Nat) : Int)).toNat 0) = n))], [.bool (decide ((c.getD ((wr (w)).tmod (((c.map encI).length : Nat) : Int)).toNat 0) < n))], [.bool (decide ((c.getD ((wr (w)).tmod (((c.map encI).length : Nat) : Int)).toNat 0) ≤ n))], [.bool (decide (n < (c.getD ((wr (w)).tmod (((c.map encI).length : Nat) : Int)).toNat 0)))], [.bool (decide (n ≤ (c.getD ((wr (w)).tmod (((c.map encI).length : Nat) : Int)).toNat 0)))]]) : AV) = .tv (.sli 1 (([(decide ((c.getD ((wr (w)).tmod (((c.map encI).length : Nat) : Int)).toNat 0) = n)), (!decide ((c.getD ((wr (w)).tmod (((c.map encI).length : Nat) : Int)).toNat 0) = n)), (decide ((c.getD ((wr (w)).tmod (((c.map encI).length : Nat) : Int)).toNat 0) < n)), (decide ((c.getD ((wr (w)).tmod (((c.map encI).length : Nat) : Int)).toNat 0) ≤ n)), (decide (n < (c.getD ((wr (w)).tmod (((c.map encI).length : Nat) : Int)).toNat 0))), (decide (n ≤ (c.getD ((wr (w)).tmod (((c.map encI).length : Nat) : Int)).toNat 0)))] : List _).map encB))] [(1000000, .any), (1, .tv (.sli 1 (c.map encI))), (3, .tv (.int .i64 n)), (4, .ptr [0] 0), (9, .tv (.bool true)), (10, .tv (.int .i64 ((wr (w)).tmod (((c.map encI).length : Nat) : Int)))), (11, .tv (.sli 1 (([(decide ((c.getD ((wr (w)).tmod (((c.map encI).length : Nat) : Int)).toNat 0) = n)), (!decide ((c.getD ((wr (w)).tmod (((c.map encI).length : Nat) : Int)).toNat 0) = n)), (decide ((c.getD ((wr (w)).tmod (((c.map encI).length : Nat) : Int)).toNat 0) < n)), (decide ((c.getD ((wr (w)).tmod (((c.map encI).length : Nat) : Int)).toNat 0) ≤ n)), (decide (n < (c.getD ((wr (w)).tmod (((c.map encI).length : Nat) : Int)).toNat 0))), (decide (n ≤ (c.getD ((wr (w)).tmod (((c.map encI).length : Nat) : Int)).toNat 0)))] : List _).map encB)))] [([0], .row ((celD d).map .tv) false)] 76 (by kernel_rfl) ?_ ?_
    · exact ⟨by (try simp only [lns] at *); omega, congrArg (fun c => AV.tv (.ptr c)) (row_enc encI c ((wr (w)).tmod (((c.map encI).length : Nat) : Int)) 0 (by (try simp only [brs, lns] at *); omega)), by (try simp only [lns] at *); omega, congrArg (fun c => AV.tv (.ptr c)) (row_enc encI c ((wr (w)).tmod (((c.map encI).length : Nat) : Int)) 0 (by (try simp only [brs, lns] at *); omega)), by (try simp only [lns] at *); omega, congrArg (fun c => AV.tv (.ptr c)) (row_enc encI c ((wr (w)).tmod (((c.map encI).length : Nat) : Int)) 0 (by (try simp only [brs, lns] at *); omega)), by (try simp only [lns] at *); omega, congrArg (fun c => AV.tv (.ptr c)) (row_enc encI c ((wr (w)).tmod (((c.map encI).length : Nat) : Int)) 0 (by (try simp only [brs, lns] at *); omega)), by (try simp only [lns] at *); omega, congrArg (fun c => AV.tv (.ptr c)) (row_enc encI c ((wr (w)).tmod (((c.map encI).length : Nat) : Int)) 0 (by (try simp only [brs, lns] at *); omega)), by (try simp only [lns] at *); omega, congrArg (fun c => AV.tv (.ptr c)) (row_enc encI c ((wr (w)).tmod (((c.map encI).length : Nat) : Int)) 0 (by (try simp only [brs, lns] at *); omega)), rfl, trivial⟩
    refine at_seq ?_
    refine at_B [1, 3, 4, 9, 10, 11, 12] [] [] [(1000000, .any), (1, .tv (.sli 1 (c.map encI))), (3, .tv (.int .i64 n)), (4, .ptr [0] 0), (9, .tv (.bool true)), (10, .tv (.int .i64 ((wr (w)).tmod (((c.map encI).length : Nat) : Int)))), (11, .tv (.sli 1 (([(decide ((c.getD ((wr (w)).tmod (((c.map encI).length : Nat) : Int)).toNat 0) = n)), (!decide ((c.getD ((wr (w)).tmod (((c.map encI).length : Nat) : Int)).toNat 0) = n)), (decide ((c.getD ((wr (w)).tmod (((c.map encI).length : Nat) : Int)).toNat 0) < n)), (decide ((c.getD ((wr (w)).tmod (((c.map encI).length : Nat) : Int)).toNat 0) ≤ n)), (decide (n < (c.getD ((wr (w)).tmod (((c.map encI).length : Nat) : Int)).toNat 0))), (decide (n ≤ (c.getD ((wr (w)).tmod (((c.map encI).length : Nat) : Int)).toNat 0)))] : List _).map encB))), (12, .tv (.int .i64 0))] [([0], .row ((celD d).map .tv) false)] 77 (by kernel_rfl) ?_ ?_
    · exact trivial
    refine at_block ?_
    refine at_loopR (X := Nat) 0 (fun (k : Nat) => [(1000000, .any), (1, .tv (.sli 1 (c.map encI))), (3, .tv (.int .i64 n)), (4, .ptr [0] 0), (9, .tv (.bool true)), (10, .tv (.int .i64 ((wr (w)).tmod (((c.map encI).length : Nat) : Int)))), (11, .tv (.sli 1 (([(decide ((c.getD ((wr (w)).tmod (((c.map encI).length : Nat) : Int)).toNat 0) = n)), (!decide ((c.getD ((wr (w)).tmod (((c.map encI).length : Nat) : Int)).toNat 0) = n)), (decide ((c.getD ((wr (w)).tmod (((c.map encI).length : Nat) : Int)).toNat 0) < n)), (decide ((c.getD ((wr (w)).tmod (((c.map encI).length : Nat) : Int)).toNat 0) ≤ n)), (decide (n < (c.getD ((wr (w)).tmod (((c.map encI).length : Nat) : Int)).toNat 0))), (decide (n ≤ (c.getD ((wr (w)).tmod (((c.map encI).length : Nat) : Int)).toNat 0)))] : List _).map encB))), (12, .tv (.int .i64 ((k : Nat) : Int)))]) (fun (k : Nat) => [([0], .row ((celD d).map .tv) false)]) (fun (k : Nat) => k ≤ 6) (fun (k : Nat) => 6 - k) 0 ?_ ?_ ?_
    · exact Nat.zero_le _
    · exact rn_ok [([0], [0])] [] [1, 3, 4, 9, 10, 11, 12] (trivial) (by kernel_rfl)
    · intro k hinv
      have hx1 := hinv
      refine at_seq ?_
      refine at_B [1, 3, 4, 9, 10, 11, 12, 88] [] [] [(1000000, .any), (1, .tv (.sli 1 (c.map encI))), (3, .tv (.int .i64 n)), (4, .ptr [0] 0), (9, .tv (.bool true)), (10, .tv (.int .i64 ((wr (w)).tmod (((c.map encI).length : Nat) : Int)))), (11, .tv (.sli 1 (([(decide ((c.getD ((wr (w)).tmod (((c.map encI).length : Nat) : Int)).toNat 0) = n)), (!decide ((c.getD ((wr (w)).tmod (((c.map encI).length : Nat) : Int)).toNat 0) = n)), (decide ((c.getD ((wr (w)).tmod (((c.map encI).length : Nat) : Int)).toNat 0) < n)), (decide ((c.getD ((wr (w)).tmod (((c.map encI).length : Nat) : Int)).toNat 0) ≤ n)), (decide (n < (c.getD ((wr (w)).tmod (((c.map encI).length : Nat) : Int)).toNat 0))), (decide (n ≤ (c.getD ((wr (w)).tmod (((c.map encI).length : Nat) : Int)).toNat 0)))] : List _).map encB))), (12, .tv (.int .i64 ((k : Nat) : Int))), (88, .tv (.bool (decide (((k : Nat) : Int) < (((([(decide ((c.getD ((wr (w)).tmod (((c.map encI).length : Nat) : Int)).toNat 0) = n)), (!decide ((c.getD ((wr (w)).tmod (((c.map encI).length : Nat) : Int)).toNat 0) = n)), (decide ((c.getD ((wr (w)).tmod (((c.map encI).length : Nat) : Int)).toNat 0) < n)), (decide ((c.getD ((wr (w)).tmod (((c.map encI).length : Nat) : Int)).toNat 0) ≤ n)), (decide (n < (c.getD ((wr (w)).tmod (((c.map encI).length : Nat) : Int)).toNat 0))), (decide (n ≤ (c.getD ((wr (w)).tmod (((c.map encI).length : Nat) : Int)).toNat 0)))] : List _).map encB).length : Nat) : Int)))))] [([0], .row ((celD d).map .tv) false)] 4 (by kernel_rfl) ?_ ?_
      · exact trivial
      refine at_cond (b := (decide (((k : Nat) : Int) < (((([(decide ((c.getD ((wr (w)).tmod (((c.map encI).length : Nat) : Int)).toNat 0) = n)), (!decide ((c.getD ((wr (w)).tmod (((c.map encI).length : Nat) : Int)).toNat 0) = n)), (decide ((c.getD ((wr (w)).tmod (((c.map encI).length : Nat) : Int)).toNat 0) < n)), (decide ((c.getD ((wr (w)).tmod (((c.map encI).length : Nat) : Int)).toNat 0) ≤ n)), (decide (n < (c.getD ((wr (w)).tmod (((c.map encI).length : Nat) : Int)).toNat 0))), (decide (n ≤ (c.getD ((wr (w)).tmod (((c.map encI).length : Nat) : Int)).toNat 0)))] : List _).map encB).length : Nat) : Int)))) rfl rfl (fun hc88 => ?_) (fun hc88 => ?_)
      · have q88 := hc88
        (try simp only [brs] at q88)
        have hk6 : k < 6 := by have := q88; simp only [List.length_cons, List.length_nil] at this; omega
        refine at_skip ?_
        change AT _ _ _ _
        refine at_seq ?_
        refine at_block ?_
        refine at_D [none, some [[0]], none, none, none, some [], none, none, none, none, some [[0]], none, none, none, none, none, some []] [0, 1, 0, 7, 15, 31, 0, 64, 0, 511, 0, 0, 4095, 0, 0, 24576, 57344, 131071] [1, 3, 4, 9, 10, 11, 12, 108] [.std, .std, .std, .eq (.tv (.ptr (celC (d.fs.getD ((wr (w)).tmod (((c.map encI).length : Nat) : Int)).toNat Fc.z)))), .std, .std, .std, .eq (.tv (.int .i64 ((k + 1 : Nat) : Int))), .std, .ret (.agg [.tv (.int .i64 3), .tv (.str (d.fs.getD ((wr (w)).tmod (((c.map encI).length : Nat) : Int)).toNat Fc.z).nm), .tv (.int .i64 ((k + 1 : Nat) : Int)), .tv (.int .i64 n), .tv (.sli 5 (([] : List _).map encF))]), .std, .std, .ret (.tv (.bool (holdP (b5_l2 d w c k n) d c ([])))), .std, .std, .eq (.tv (.ptr [.bool (([(decide ((c.getD ((wr (w)).tmod (((c.map encI).length : Nat) : Int)).toNat 0) = n)), (!decide ((c.getD ((wr (w)).tmod (((c.map encI).length : Nat) : Int)).toNat 0) = n)), (decide ((c.getD ((wr (w)).tmod (((c.map encI).length : Nat) : Int)).toNat 0) < n)), (decide ((c.getD ((wr (w)).tmod (((c.map encI).length : Nat) : Int)).toNat 0) ≤ n)), (decide (n < (c.getD ((wr (w)).tmod (((c.map encI).length : Nat) : Int)).toNat 0))), (decide (n ≤ (c.getD ((wr (w)).tmod (((c.map encI).length : Nat) : Int)).toNat 0)))]).getD k false)]))] [(0 ≤ ((wr (w)).tmod (((c.map encI).length : Nat) : Int)) ∧ ((wr (w)).tmod (((c.map encI).length : Nat) : Int)) < ((((d.fs.map celC) : List (List TV)).length : Nat) : Int)), (.tv (.ptr (rowAt (d.fs.map celC) ((wr (w)).tmod (((c.map encI).length : Nat) : Int)))) : AV) = .tv (.ptr (celC (d.fs.getD ((wr (w)).tmod (((c.map encI).length : Nat) : Int)).toNat Fc.z))), (.tv (.int .i64 (wr (((k : Nat) : Int) + 1))) : AV) = .tv (.int .i64 ((k + 1 : Nat) : Int)), PureCall Tryd.prog 31 [.tv (.str (d.fs.getD ((wr (w)).tmod (((c.map encI).length : Nat) : Int)).toNat Fc.z).nm), .tv (.int .i64 ((k + 1 : Nat) : Int)), .tv (.int .i64 n)] (.agg [.tv (.int .i64 3), .tv (.str (d.fs.getD ((wr (w)).tmod (((c.map encI).length : Nat) : Int)).toNat Fc.z).nm), .tv (.int .i64 ((k + 1 : Nat) : Int)), .tv (.int .i64 n), .tv (.sli 5 (([] : List _).map encF))]), PureCall Tryd.prog 26 [.agg [.tv (.int .i64 3), .tv (.str (d.fs.getD ((wr (w)).tmod (((c.map encI).length : Nat) : Int)).toNat Fc.z).nm), .tv (.int .i64 ((k + 1 : Nat) : Int)), .tv (.int .i64 n), .tv (.sli 5 (([] : List _).map encF))], agD d, .tv (.sli 1 (c.map encI)), .tv .nils] (.tv (.bool (holdP (b5_l2 d w c k n) d c ([])))), (0 ≤ ((k : Nat) : Int) ∧ ((k : Nat) : Int) < ((((([(decide ((c.getD ((wr (w)).tmod (((c.map encI).length : Nat) : Int)).toNat 0) = n)), (!decide ((c.getD ((wr (w)).tmod (((c.map encI).length : Nat) : Int)).toNat 0) = n)), (decide ((c.getD ((wr (w)).tmod (((c.map encI).length : Nat) : Int)).toNat 0) < n)), (decide ((c.getD ((wr (w)).tmod (((c.map encI).length : Nat) : Int)).toNat 0) ≤ n)), (decide (n < (c.getD ((wr (w)).tmod (((c.map encI).length : Nat) : Int)).toNat 0))), (decide (n ≤ (c.getD ((wr (w)).tmod (((c.map encI).length : Nat) : Int)).toNat 0)))] : List _).map encB) : List (List TV)).length : Nat) : Int)), (.tv (.ptr (rowAt (([(decide ((c.getD ((wr (w)).tmod (((c.map encI).length : Nat) : Int)).toNat 0) = n)), (!decide ((c.getD ((wr (w)).tmod (((c.map encI).length : Nat) : Int)).toNat 0) = n)), (decide ((c.getD ((wr (w)).tmod (((c.map encI).length : Nat) : Int)).toNat 0) < n)), (decide ((c.getD ((wr (w)).tmod (((c.map encI).length : Nat) : Int)).toNat 0) ≤ n)), (decide (n < (c.getD ((wr (w)).tmod (((c.map encI).length : Nat) : Int)).toNat 0))), (decide (n ≤ (c.getD ((wr (w)).tmod (((c.map encI).length : Nat) : Int)).toNat 0)))] : List _).map encB) ((k : Nat) : Int))) : AV) = .tv (.ptr [.bool (([(decide ((c.getD ((wr (w)).tmod (((c.map encI).length : Nat) : Int)).toNat 0) = n)), (!decide ((c.getD ((wr (w)).tmod (((c.map encI).length : Nat) : Int)).toNat 0) = n)), (decide ((c.getD ((wr (w)).tmod (((c.map encI).length : Nat) : Int)).toNat 0) < n)), (decide ((c.getD ((wr (w)).tmod (((c.map encI).length : Nat) : Int)).toNat 0) ≤ n)), (decide (n < (c.getD ((wr (w)).tmod (((c.map encI).length : Nat) : Int)).toNat 0))), (decide (n ≤ (c.getD ((wr (w)).tmod (((c.map encI).length : Nat) : Int)).toNat 0)))]).getD k false)])] [(1000000, .any), (1, .tv (.sli 1 (c.map encI))), (3, .tv (.int .i64 n)), (4, .ptr [0] 0), (9, .tv (.bool true)), (10, .tv (.int .i64 ((wr (w)).tmod (((c.map encI).length : Nat) : Int)))), (11, .tv (.sli 1 (([(decide ((c.getD ((wr (w)).tmod (((c.map encI).length : Nat) : Int)).toNat 0) = n)), (!decide ((c.getD ((wr (w)).tmod (((c.map encI).length : Nat) : Int)).toNat 0) = n)), (decide ((c.getD ((wr (w)).tmod (((c.map encI).length : Nat) : Int)).toNat 0) < n)), (decide ((c.getD ((wr (w)).tmod (((c.map encI).length : Nat) : Int)).toNat 0) ≤ n)), (decide (n < (c.getD ((wr (w)).tmod (((c.map encI).length : Nat) : Int)).toNat 0))), (decide (n ≤ (c.getD ((wr (w)).tmod (((c.map encI).length : Nat) : Int)).toNat 0)))] : List _).map encB))), (12, .tv (.int .i64 ((k : Nat) : Int))), (108, .tv (.bool (!((holdP (b5_l2 d w c k n) d c ([])) == (([(decide ((c.getD ((wr (w)).tmod (((c.map encI).length : Nat) : Int)).toNat 0) = n)), (!decide ((c.getD ((wr (w)).tmod (((c.map encI).length : Nat) : Int)).toNat 0) = n)), (decide ((c.getD ((wr (w)).tmod (((c.map encI).length : Nat) : Int)).toNat 0) < n)), (decide ((c.getD ((wr (w)).tmod (((c.map encI).length : Nat) : Int)).toNat 0) ≤ n)), (decide (n < (c.getD ((wr (w)).tmod (((c.map encI).length : Nat) : Int)).toNat 0))), (decide (n ≤ (c.getD ((wr (w)).tmod (((c.map encI).length : Nat) : Int)).toNat 0)))]).getD k false)))))] [([0], .row ((celD d).map .tv) false)] 22 (by kernel_rfl) ?_ ?_
        · exact ⟨by (try simp only [lns] at *); omega, congrArg (fun c => AV.tv (.ptr c)) (row_C d.fs ((wr (w)).tmod (((c.map encI).length : Nat) : Int)) (by (try simp only [brs, lns] at *); omega)), succ_av k (by (try simp only [lns] at *); omega), (c31 (d.fs.getD ((wr (w)).tmod (((c.map encI).length : Nat) : Int)).toNat Fc.z).nm ((k + 1 : Nat) : Int) n), ((c26 (b5_l2 d w c k n) d c [])).arg (.cons (Le.refl _) (.cons (Le.refl _) (.cons (Le.refl _) (.cons (Le.nils 1) .nil)))), by (try simp only [lns] at *); omega, congrArg (fun c => AV.tv (.ptr c)) (row_enc encB ([(decide ((c.getD ((wr (w)).tmod (((c.map encI).length : Nat) : Int)).toNat 0) = n)), (!decide ((c.getD ((wr (w)).tmod (((c.map encI).length : Nat) : Int)).toNat 0) = n)), (decide ((c.getD ((wr (w)).tmod (((c.map encI).length : Nat) : Int)).toNat 0) < n)), (decide ((c.getD ((wr (w)).tmod (((c.map encI).length : Nat) : Int)).toNat 0) ≤ n)), (decide (n < (c.getD ((wr (w)).tmod (((c.map encI).length : Nat) : Int)).toNat 0))), (decide (n ≤ (c.getD ((wr (w)).tmod (((c.map encI).length : Nat) : Int)).toNat 0)))]) ((k : Nat) : Int) false (by (try simp only [brs, lns] at *); omega)), trivial⟩
        refine at_cond (b := (!((holdP (b5_l2 d w c k n) d c ([])) == (([(decide ((c.getD ((wr (w)).tmod (((c.map encI).length : Nat) : Int)).toNat 0) = n)), (!decide ((c.getD ((wr (w)).tmod (((c.map encI).length : Nat) : Int)).toNat 0) = n)), (decide ((c.getD ((wr (w)).tmod (((c.map encI).length : Nat) : Int)).toNat 0) < n)), (decide ((c.getD ((wr (w)).tmod (((c.map encI).length : Nat) : Int)).toNat 0) ≤ n)), (decide (n < (c.getD ((wr (w)).tmod (((c.map encI).length : Nat) : Int)).toNat 0))), (decide (n ≤ (c.getD ((wr (w)).tmod (((c.map encI).length : Nat) : Int)).toNat 0)))]).getD k false)))) rfl rfl (fun hc108 => ?_) (fun hc108 => ?_)
        · have q108 := hc108
          (try simp only [brs] at q108)
          exact absurd hc108 (by rw [show holdP (b5_l2 d w c k n) d c [] = _ from tests_all q41.1.1.1.1.2 q41.1.1.1.2 hil ⟨by omega, by omega⟩ hk6]; simp)
        · have q108 := hc108
          (try simp only [brs] at q108)
          refine at_skip ?_
          change AT _ _ _ _
          refine at_Bl [1, 3, 4, 9, 10, 11, 12] [.std, .eq (.tv (.int .i64 ((k + 1 : Nat) : Int)))] [(.tv (.int .i64 (wr (((k : Nat) : Int) + 1))) : AV) = .tv (.int .i64 ((k + 1 : Nat) : Int))] [(1000000, .any), (1, .tv (.sli 1 (c.map encI))), (3, .tv (.int .i64 n)), (4, .ptr [0] 0), (9, .tv (.bool true)), (10, .tv (.int .i64 ((wr (w)).tmod (((c.map encI).length : Nat) : Int)))), (11, .tv (.sli 1 (([(decide ((c.getD ((wr (w)).tmod (((c.map encI).length : Nat) : Int)).toNat 0) = n)), (!decide ((c.getD ((wr (w)).tmod (((c.map encI).length : Nat) : Int)).toNat 0) = n)), (decide ((c.getD ((wr (w)).tmod (((c.map encI).length : Nat) : Int)).toNat 0) < n)), (decide ((c.getD ((wr (w)).tmod (((c.map encI).length : Nat) : Int)).toNat 0) ≤ n)), (decide (n < (c.getD ((wr (w)).tmod (((c.map encI).length : Nat) : Int)).toNat 0))), (decide (n ≤ (c.getD ((wr (w)).tmod (((c.map encI).length : Nat) : Int)).toNat 0)))] : List _).map encB))), (12, .tv (.int .i64 ((k + 1 : Nat) : Int)))] [([0], .row ((celD d).map .tv) false)] 25 (by kernel_rfl) ?_ ?_
          · exact ⟨succ_av k (by (try simp only [lns] at *); omega), trivial⟩
          refine ⟨rfl, (k + 1), ?_, ?_, ?_⟩
          · (try dsimp only); omega
          · omega
          · exact rn_ok [([0], [0])] [] [1, 3, 4, 9, 10, 11, 12] (trivial) (by kernel_rfl)
      · have q88 := hc88
        (try simp only [brs] at q88)
        refine at_exit ?_
        change AT _ _ _ _
        refine at_D [none, none, none, some [[0]], none, none, none, some [], none, none, some [[0]], none, none, none, none, none, none, some [[0]], none, none, none, some [], none, none, some [[0]]] [0, 1, 3, 7, 3, 31, 63, 127, 3, 511, 3, 3, 4095, 8191, 16383, 32767, 65535, 131071, 65535, 524287, 1048575, 2097151, 65535, 8388607, 65535, 65535, 67108863, 134217727, 268435455, 536870911] [8] [.std, .std, .std, .std, .std, .eq (.tv (.ptr (celC (d.fs.getD ((wr (w)).tmod (((c.map encI).length : Nat) : Int)).toNat Fc.z)))), .std, .std, .std, .ret (.agg [.tv (.int .i64 3), .tv (.str (d.fs.getD ((wr (w)).tmod (((c.map encI).length : Nat) : Int)).toNat Fc.z).nm), .tv (.int .i64 7), .tv (.int .i64 n), .tv (.sli 5 (([] : List _).map encF))]), .std, .std, .ret (.tv (.bool (holdP (b5_l1 d w c n) d c ([])))), .std, .std, .std, .std, .std, .std, .eq (.tv (.ptr (celC (d.fs.getD ((wr (w)).tmod (((c.map encI).length : Nat) : Int)).toNat Fc.z)))), .std, .std, .std, .ret (.agg [.tv (.int .i64 3), .tv (.str (d.fs.getD ((wr (w)).tmod (((c.map encI).length : Nat) : Int)).toNat Fc.z).nm), .tv (.int .i64 0), .tv (.int .i64 n), .tv (.sli 5 (([] : List _).map encF))]), .std, .std, .ret (.tv (.bool (holdP (b5_l3 d w c n) d c ([]))))] [(true = true) → (0 ≤ ((wr (w)).tmod (((c.map encI).length : Nat) : Int)) ∧ ((wr (w)).tmod (((c.map encI).length : Nat) : Int)) < ((((d.fs.map celC) : List (List TV)).length : Nat) : Int)), (true = true) → (.tv (.ptr (rowAt (d.fs.map celC) ((wr (w)).tmod (((c.map encI).length : Nat) : Int)))) : AV) = .tv (.ptr (celC (d.fs.getD ((wr (w)).tmod (((c.map encI).length : Nat) : Int)).toNat Fc.z))), (true = true) → PureCall Tryd.prog 31 [.tv (.str (d.fs.getD ((wr (w)).tmod (((c.map encI).length : Nat) : Int)).toNat Fc.z).nm), .tv (.int .i64 7), .tv (.int .i64 n)] (.agg [.tv (.int .i64 3), .tv (.str (d.fs.getD ((wr (w)).tmod (((c.map encI).length : Nat) : Int)).toNat Fc.z).nm), .tv (.int .i64 7), .tv (.int .i64 n), .tv (.sli 5 (([] : List _).map encF))]), (true = true) → PureCall Tryd.prog 26 [.agg [.tv (.int .i64 3), .tv (.str (d.fs.getD ((wr (w)).tmod (((c.map encI).length : Nat) : Int)).toNat Fc.z).nm), .tv (.int .i64 7), .tv (.int .i64 n), .tv (.sli 5 (([] : List _).map encF))], agD d, .tv (.sli 1 (c.map encI)), .tv .nils] (.tv (.bool (holdP (b5_l1 d w c n) d c ([])))), ((!(holdP (b5_l1 d w c n) d c ([]))) = true) → (0 ≤ ((wr (w)).tmod (((c.map encI).length : Nat) : Int)) ∧ ((wr (w)).tmod (((c.map encI).length : Nat) : Int)) < ((((d.fs.map celC) : List (List TV)).length : Nat) : Int)), ((!(holdP (b5_l1 d w c n) d c ([]))) = true) → (.tv (.ptr (rowAt (d.fs.map celC) ((wr (w)).tmod (((c.map encI).length : Nat) : Int)))) : AV) = .tv (.ptr (celC (d.fs.getD ((wr (w)).tmod (((c.map encI).length : Nat) : Int)).toNat Fc.z))), ((!(holdP (b5_l1 d w c n) d c ([]))) = true) → PureCall Tryd.prog 31 [.tv (.str (d.fs.getD ((wr (w)).tmod (((c.map encI).length : Nat) : Int)).toNat Fc.z).nm), .tv (.int .i64 0), .tv (.int .i64 n)] (.agg [.tv (.int .i64 3), .tv (.str (d.fs.getD ((wr (w)).tmod (((c.map encI).length : Nat) : Int)).toNat Fc.z).nm), .tv (.int .i64 0), .tv (.int .i64 n), .tv (.sli 5 (([] : List _).map encF))]), ((!(holdP (b5_l1 d w c n) d c ([]))) = true) → PureCall Tryd.prog 26 [.agg [.tv (.int .i64 3), .tv (.str (d.fs.getD ((wr (w)).tmod (((c.map encI).length : Nat) : Int)).toNat Fc.z).nm), .tv (.int .i64 0), .tv (.int .i64 n), .tv (.sli 5 (([] : List _).map encF))], agD d, .tv (.sli 1 (c.map encI)), .tv .nils] (.tv (.bool (holdP (b5_l3 d w c n) d c ([]))))] [(1000000, .any), (8, .tv (.bool ((!(holdP (b5_l1 d w c n) d c ([]))) && (!(holdP (b5_l3 d w c n) d c ([]))))))] [([0], .row ((celD d).map .tv) false)] 108 (by kernel_rfl) ?_ ?_
        · exact ⟨fun hg0 => by (try simp only [brs, lns] at *); omega, fun hg0 => congrArg (fun c => AV.tv (.ptr c)) (row_C d.fs ((wr (w)).tmod (((c.map encI).length : Nat) : Int)) (by (try simp only [brs, lns] at *); omega)), fun hg0 => (c31 (d.fs.getD ((wr (w)).tmod (((c.map encI).length : Nat) : Int)).toNat Fc.z).nm 7 n), fun hg0 => ((c26 (b5_l1 d w c n) d c [])).arg (.cons (Le.refl _) (.cons (Le.refl _) (.cons (Le.refl _) (.cons (Le.nils 1) .nil)))), fun hg0 => by (try simp only [brs, lns] at *); omega, fun hg0 => congrArg (fun c => AV.tv (.ptr c)) (row_C d.fs ((wr (w)).tmod (((c.map encI).length : Nat) : Int)) (by (try simp only [brs, lns] at *); omega)), fun hg0 => (c31 (d.fs.getD ((wr (w)).tmod (((c.map encI).length : Nat) : Int)).toNat Fc.z).nm 0 n), fun hg0 => ((c26 (b5_l3 d w c n) d c [])).arg (.cons (Le.refl _) (.cons (Le.refl _) (.cons (Le.refl _) (.cons (Le.nils 1) .nil)))), trivial⟩
        refine at_ret ?_
        refine fin0 (.inr rfl) (.tv (.bool ((!(holdP (b5_l1 d w c n) d c ([]))) && (!(holdP (b5_l3 d w c n) d c ([])))))) [([0], .row ((celD d).map .tv) false)] (.tv (.bool ((!(holdP (b5_l1 d w c n) d c ([]))) && (!(holdP (b5_l3 d w c n) d c ([])))))) (H2 := [([0], .row ((celD d).map .tv) false)]) (by kernel_rfl) (by kernel_rfl) ?_
        refine Le.of_eq ?_
        rw [test_hold q41.1.1.1.1.2 q41.1.1.1.2 hil ⟨by omega, by omega⟩, test_hold q41.1.1.1.1.2 q41.1.1.1.2 hil ⟨by omega, by omega⟩]; rfl
end Go.Proofs.YtphmhelkojdlaaaDoor
namespace Go.Proofs.YtphmhelkojdlaaaDoor
open Go.RowKit Go.ChangeShapes Go.WideShapes Go.ChangeAt
set_option linter.unusedSimpArgs false
set_option linter.unusedVariables false
section
variable {H : Type} {enc : TypeId × Value → H} {W : World}
theorem rd_3 (fuel : Nat) : Rd enc Tryd.prog W fuel 3 (fun n : Int => [.int .i64 n]) := rd_int Tryd.underlying3
theorem rd_9 (fuel : Nat) : Rd enc Tryd.prog W fuel 9 (fun s : ByteArray => [.str s]) := rd_str Tryd.underlying9
theorem rd_52 (fuel : Nat) : Rd enc Tryd.prog W fuel 52 celC := by
  cases fuel with
  | zero => exact rd_zero
  | succ fuel =>
    intro cs x h
    obtain ⟨hl, hf⟩ := rd_fields Tryd.underlying52 h
    obtain ⟨a0, r0⟩ := rd_field hf 0 9 0 1 rfl (by kernel_rfl) (rd_9 fuel)
    obtain ⟨a1, r1⟩ := rd_field hf 1 3 1 1 rfl (by kernel_rfl) (rd_3 fuel)
    obtain ⟨a2, r2⟩ := rd_field hf 2 3 2 1 rfl (by kernel_rfl) (rd_3 fuel)
    obtain ⟨a3, r3⟩ := rd_field hf 3 3 3 1 rfl (by kernel_rfl) (rd_3 fuel)
    refine ⟨(Fc.mk a0 a1 a2 a3), ?_⟩
    exact CR.app (off := 0) (n := 1) r0 rfl (CR.app (off := 1) (n := 1) r1 rfl (CR.app (off := 2) (n := 1) r2 rfl (CR.app (off := 3) (n := 1) r3 rfl (CR.fin (n := 4) (hl.trans (by kernel_rfl))))))
theorem rd_25 (fuel : Nat) : Rd enc Tryd.prog W fuel 25 (fun l : List Fc => [.sli 4 (l.map celC)]) := by
  cases fuel with
  | zero => exact rd_zero
  | succ fuel => exact rd_slice Tryd.underlying25 (by kernel_rfl) (fun _ => rfl) (rd_52 fuel)
theorem rd_27 (fuel : Nat) : Rd enc Tryd.prog W fuel 27 celD := by
  cases fuel with
  | zero => exact rd_zero
  | succ fuel =>
    intro cs x h
    obtain ⟨hl, hf⟩ := rd_fields Tryd.underlying27 h
    obtain ⟨a0, r0⟩ := rd_field hf 0 25 0 1 rfl (by kernel_rfl) (rd_25 fuel)
    refine ⟨(Dm.mk a0), ?_⟩
    exact CR.app (off := 0) (n := 1) r0 rfl (CR.fin (n := 1) (hl.trans (by kernel_rfl)))
theorem rd_29 (fuel : Nat) : Rd enc Tryd.prog W fuel 29 (fun l : List Int => [.sli 1 (l.map encI)]) := by
  cases fuel with
  | zero => exact rd_zero
  | succ fuel => exact rd_slice Tryd.underlying29 (by kernel_rfl) (fun _ => rfl) (rd_3 fuel)
theorem rd_5 (fuel : Nat) : Rd enc Tryd.prog W fuel 5 (fun n : Int => [.int .u8 n]) := rd_int Tryd.underlying5
end
theorem own : ownKnob Tryd.prog.godebug = none := by kernel_rfl
theorem laidOut : laidOutB Tryd.prog = true := by kernel_rfl
abbrev laidL {H : Type} : List (String × DataW H) := [("math/bits.deBruijn32tab", Rows.laid_math_bits_deBruijn32tab), ("math/bits.deBruijn64tab", Rows.laid_math_bits_deBruijn64tab), ("internal/strconv.uint64pow10", Rows.laid_internal_strconv_uint64pow10), ("strconv.ErrRange", Rows.laid_strconv_ErrRange), ("strconv.ErrSyntax", Rows.laid_strconv_ErrSyntax)]
/-- The door's own heap meets the condition. -/
theorem door_met (os : Os) (args : Array Value) : laidMetH Tryd.prog laidL ((World.doorLaid Tryd.prog 4000 os).forCall (fun _ _ => 0) ⟨#[], args, []⟩).memory :=
  laidMetH_of_parts3 (fuel := 8) (laidMet_of_run' 8 (by kernel_rfl) (by kernel_rfl)) (by kernel_rfl) (by kernel_rfl)
end Go.Proofs.YtphmhelkojdlaaaDoor
namespace Go.Proofs.YtphmhelkojdlaaaDoor
open Go.RowKit Go.ChangeShapes Go.WideShapes Go.ChangeAt
set_option linter.unusedSimpArgs false
set_option linter.unusedVariables false
theorem law5_pure (d : Dm) (c : List Int) (w n : Int) (hw : IntKind.min .u8 ≤ w ∧ w ≤ IntKind.max .u8) : PureCall Tryd.prog 5 [.agg ((celD d).map .tv), .tv (.sli 1 (c.map encI)), .tv (.int .u8 w), .tv (.int .i64 n)] (.tv (.bool true)) := l5 d c w n hw
set_option maxRecDepth 100000 in
theorem lifted5 (os : Os) (started : os.Started) (H : Type) (enc : TypeId × Value → H) :
    ReturnsInHanded {} Tryd.checked os 5 .any (fun w args => (Rows.formulaTestsSpec.pre enc Tryd.prog Tryd.f5 [] false w args ∧ laidMetH Tryd.prog laidL w) ∧ sizedMet enc Tryd.prog Tryd.f5 (OpenSpec.ofChange Rows.formulaTestsSpec) false w args) (Rows.formulaTestsSpec.post enc Tryd.prog Tryd.f5 false true false false) := by
  refine returnsInHanded_of_change_and (C := Tryd.checked) (X := fun w _ => laidMetH Tryd.prog laidL w) (fun _ _ _ hh h => h.of_heap hh) own started (by kernel_rfl) Tryd.func5
    (ChangeSpec.witness_shaped (enc := enc) (C := Tryd.checked) (os := os) (X := fun w _ => laidMetH Tryd.prog laidL w) false (World.doorLaid Tryd.prog 4000 os) #[.agg #[.slice none 0 0], .slice none 0 0, .int .u8 0, .int .i64 0] 8 rfl (World.shaped_of_RefB (by kernel_rfl) (by kernel_rfl)) (by kernel_rfl) (by kernel_rfl) (by kernel_rfl) (door_met os _)) ?_
  intro W base args ds gs before hval0 hW _ _ hL _
  have hval : ∀ (j : Nat) t v, Tryd.f5.params[j]? = some t → args[j]? = some v → Value.okWide Tryd.prog W .any base t v := hval0
  have hW' := hW
  obtain ⟨p, q, hA0, hV, rfl, _, _⟩ := hW
  have hA : DataW.TrodAll enc Tryd.prog W 0 (fun _ => true) true Tryd.f5.params.toList args.toList ds p := hA0
  rw [Tryd.params5] at hA hval
  obtain ⟨v0, vs0, d0, ds0, p0, q0, hargs, rfl, rfl, h0, g0⟩ := trodAll_cons hA
  obtain ⟨v1, vs1, d1, ds1, p1, q1, rfl, rfl, rfl, h1, g1⟩ := trodAll_cons g0
  obtain ⟨v2, vs2, d2, ds2, p2, q2, rfl, rfl, rfl, h2, g2⟩ := trodAll_cons g1
  obtain ⟨v3, vs3, d3, ds3, p3, q3, rfl, rfl, rfl, h3, g3⟩ := trodAll_cons g2
  obtain ⟨rfl, rfl, rfl⟩ := trodAll_nil g3
  obtain rfl : args = #[v0, v1, v2, v3] := by cases args; simp_all
  obtain ⟨rfl, rfl⟩ := trodVars_none hV
  obtain ⟨us0, rfl, _⟩ := okWide_struct Tryd.underlying27 (hval 0 27 v0 rfl rfl)
  obtain ⟨x0, y0⟩ := arg_agg (ι := fun _ => none) rd_27 h0
  obtain ⟨z1, len1, cap1, rfl⟩ := okWide_slice Tryd.underlying29 (hval 1 29 v1 rfl rfl)
  obtain ⟨x1, y1⟩ := arg_one (ι := fun _ => none) rfl rd_29 h1
  obtain ⟨z2, rfl⟩ := okWide_int Tryd.underlying5 (hval 2 5 v2 rfl rfl)
  obtain ⟨x2, y2⟩ := arg_one (ι := fun _ => none) rfl rd_5 h2
  obtain ⟨z3, rfl⟩ := okWide_int Tryd.underlying3 (hval 3 3 v3 rfl rfl)
  obtain ⟨x3, y3⟩ := arg_one (ι := fun _ => none) rfl rd_3 h3
  clear hA0 hval0
  simp only [List.append_nil] at hW'
  have hlt : ∀ x ∈ p0 ++ p1 ++ p2 ++ p3, x.block < W.heap.size := fun x hx => by simpa using hW'.lt x (by simpa using hx)
  refine (law_calls (P := Tryd.prog) (b := true) (law5_pure x0 x1 x2 x3 (okWide_has Tryd.underlying5 (hval 2 5 _ rfl rfl) y2)) (VRs.cons y0 (VRs.cons y1 (VRs.cons y2 (VRs.cons y3 (VRs.nil _ _)))))).mono fun e W' ⟨he, hb⟩ => ?_
  subst he
  refine ⟨_, rfl, _, _, _, [], _, [], hW', trodAll_mk1 (shut_bool Tryd.underlying4 true), (trodAll_cons_mk (Below.trod laidOut (by kernel_rfl) (of_decide_eq_true (by kernel_rfl)) h0 hb (fun x hx => hlt x (by simp [hx]))) (trodAll_cons_mk (Below.trod laidOut (by kernel_rfl) (of_decide_eq_true (by kernel_rfl)) h1 hb (fun x hx => hlt x (by simp [hx]))) (trodAll_cons_mk (Below.trod laidOut (by kernel_rfl) (of_decide_eq_true (by kernel_rfl)) h2 hb (fun x hx => hlt x (by simp [hx]))) (trodAll_cons_mk (Below.trod laidOut (by kernel_rfl) (of_decide_eq_true (by kernel_rfl)) h3 hb (fun x hx => hlt x (by simp [hx]))) trodAll_mk0)))), rfl, hb.frame _, fun h => by cases h⟩
theorem proved5 : Rows.FormulaTestsSaid :=
  OpenClaim.holds_of_wide 5 Tryd.f5 rfl rfl rfl rfl rfl rfl rfl ⟨rfl, rfl, rfl, rfl, rfl⟩ rfl rfl rfl rfl rfl (by kernel_rfl) Tryd.func5 (by kernel_rfl)
    (of_decide_eq_true (by kernel_rfl)) (by unfold Func.isWrapper; first | (rw [if_pos (by decide +kernel)]; kernel_rfl) | (rw [if_neg (by decide +kernel)]; exact ⟨rfl, rfl⟩))
    (fun os started H enc _ => lifted5 os started H enc)
theorem card5 : Rows.FormulaTestsCardSaid :=
  Claim7.holds_tied_plain_at .later [] _ true (true, "4a36700912013bb2f555b7a01611f8226529d3d0a19222fa014a5d6bd73064b1") true
    proved5 (fun _ h => by cases h) (by kernel_rfl) (fun _ h => by cases h) formulaTests_row_tie rfl ⟨rfl, rfl⟩ (by kernel_rfl) rfl
    (fun f fn hf hfn => by
      obtain rfl : f = 5 := Option.some.inj ((show Tryd.prog.funcNamed "pandect/pandectlaw07.FormulaTests" = some 5 by kernel_rfl).symm.trans hf) |>.symm
      obtain rfl : fn = Tryd.f5 := (Option.some.inj (Tryd.func5.symm.trans hfn)).symm
      exact ⟨by kernel_rfl, fun j t ht => by
        rw [Tryd.params5] at ht
        have hm : t ∈ [27, 29, 5, 3] := by simpa using Array.mem_of_getElem? ht
        have hall : ([27, 29, 5, 3].all fun u => !Tryd.prog.wantsStandIn u) = true := by kernel_rfl
        exact (show Tryd.prog.wantsStandIn t = false by simpa using List.all_eq_true.1 hall t hm)⟩)
    (by kernel_rfl)
#print axioms card5
end Go.Proofs.YtphmhelkojdlaaaDoor
