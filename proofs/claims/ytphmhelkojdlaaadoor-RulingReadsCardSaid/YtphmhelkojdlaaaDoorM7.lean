/- Part M7 of the proof. -/
import Derived.Test.YtphmhelkojdlaaaDoorM6
namespace Go.Proofs.YtphmhelkojdlaaaDoor
open Go.RowKit
set_option linter.unusedSimpArgs false
set_option linter.unusedVariables false
theorem mx_or (a b : Int) : mx a b = a ∧ b ≤ a ∨ mx a b = b ∧ a ≤ b := by
 unfold mx
 split
 ·exact .inr ⟨rfl, by omega⟩
 ·exact .inl ⟨rfl, by omega⟩
theorem szFs_ok {l : List Fm} (h : ∀ k ∈ l, nF k ≤ 1000000 → (szF k).1 = (nF k : Int) ∧ 1 ≤ (szF k).2 ∧ (szF k).2 ≤ (nF k : Int)) :
  ∀ (a d : Int), 1 ≤ a → a + (nFs l : Int) ≤ 1000001 → 0 ≤ d → d ≤ 1000000 → (szFs l a d).1 = a + (nFs l : Int) ∧ d ≤ (szFs l a d).2 ∧ (szFs l a d).2 ≤ d + (nFs l : Int) := by
 induction l with
 | nil => intro a d h1 h2 h3 h4; simp only [szFs, nFs]; omega
 | cons k r ih =>
  intro a d h1 h2 h3 h4
  simp only [nFs] at h2
  have hp := nF_pos k
  obtain ⟨a1, a2, a3⟩ := h k (by simp) (by omega)
  simp only [szFs, nFs]
  have hw : wr (a + (szF k).1) = a + (szF k).1 := wr_fit _ ⟨by omega, by omega⟩
  rw [hw, a1]
  have hm := mx_or d (szF k).2
  obtain ⟨b1, b2, b3⟩ := ih (fun x hx => h x (by simp [hx])) (a + (nF k : Int)) (mx d (szF k).2) (by omega) (by omega) (by omega) (by omega)
  refine ⟨by omega, by omega, by omega⟩
theorem szF_ok : ∀ f : Fm, nF f ≤ 1000000 → (szF f).1 = (nF f : Int) ∧ 1 ≤ (szF f).2 ∧ (szF f).2 ≤ (nF f : Int) := by
 refine Fm.ind (fun f ih => ?_)
 intro hn
 rw [nF_eq] at hn ⊢
 rw [szF_eq]
 obtain ⟨a, b, c⟩ := szFs_ok ih 1 0 (by omega) (by omega) (by omega) (by omega)
 simp only
 rw [wr_fit _ ⟨by omega, by omega⟩]
 omega
/-- A formula with at most k nodes and e levels, of which every node is well-formed. -/
structure Gd (d : Dm) (k e : Int) (f : Fm) : Prop where
 n : (nF f : Int) ≤ k
 e : (szF f).2 ≤ e
 z : errF (oneR d [] true) f = 0
theorem one_weak {d : Dm} {l : List ByteArray} {f : Fm} (h : oneR d l false f = 0) : oneR d [] true f = 0 := by
 obtain ⟨h1, h2, h3⟩ := one_zero h
 refine one_0 (by rw [h1]; rfl) h2 ?_
 unfold nameE at h3 ⊢
 rw [Bool.or_eq_false_iff] at h3
 rw [h3.1]; simp
theorem errFs_all {e : Fm → Int} {l : List Fm} (h : ∀ k ∈ l, errF e k = 0) : errFs e l = 0 := by
 induction l with
 | nil => rfl
 | cons k r ih => simp only [errFs, h k (by simp), ih (fun x hx => h x (by simp [hx]))]; rfl
theorem errF_mk {e : Fm → Int} {f : Fm} (h : e f = 0) (hk : ∀ k ∈ f.ks, errF e k = 0) : errF e f = 0 := by
 rw [errF_eq, h, errFs_all hk]; rfl
theorem err_weak {d : Dm} {l : List ByteArray} : ∀ f : Fm, errF (oneR d l false) f = 0 → errF (oneR d [] true) f = 0 := by
 refine Fm.ind (fun f ih => ?_)
 intro h
 obtain ⟨h1, h2⟩ := errF_zero h
 exact errF_mk (one_weak h1) (fun k hk => ih k hk (h2 k hk))
theorem large_iff {f : Fm} (hn : nF f ≤ 1000000) : largeR f = false ↔ (nF f : Int) ≤ 200 ∧ (szF f).2 ≤ 20 := by
 have := szF_ok f hn
 unfold largeR
 rw [Bool.or_eq_false_iff, decide_eq_false_iff_not, decide_eq_false_iff_not, this.1]
 omega
theorem Gd.check {d : Dm} {k e : Int} {f : Fm} (h : Gd d k e f) (hk : k ≤ 200) (he : e ≤ 20) : checkA f d = 0 := by
 have h1 := h.n
 have h2 := h.e
 have hl : largeR f = false := (large_iff (by omega)).2 ⟨by omega, by omega⟩
 unfold checkA
 rw [hl, h.z]; rfl
theorem Gd.hold {d : Dm} {k e : Int} {f : Fm} (h : Gd d k e f) (hk : k ≤ 200) (he : e ≤ 20) {c : List Int} (hc : fitsD d c = true) (l : List ByteArray) : holdP f d c l = valF d c l f := by
 unfold holdP
 rw [h.check hk he, hc]; rfl
/-! ### Connectives -/
theorem one_op {d : Dm} {f : Fm} (h : formedR f = true) (h3 : ¬ f.op = 3) (h4 : ¬ f.op = 4) : oneR d [] true f = 0 := by
 refine one_0 (by rw [h]; rfl) ?_ ?_
 ·unfold rangeE; rw [decide_eq_false h3]; rfl
 ·unfold nameE; rw [decide_eq_false h3, decide_eq_false h4]; rfl
theorem Gd.one {d : Dm} {k e : Int} {f : Fm} (h : Gd d k e f) (hk : k ≤ 1000) (he : e ≤ 1000) : Gd d (k + 1) (e + 1) (.mk 5 ⟨#[]⟩ 0 0 [f]) := by
 have hn := h.n
 have hs := szF_ok f (by omega)
 have he' := h.e
 refine ⟨?_, ?_, errF_mk (one_op (by rfl) (by show ¬ (5 : Int) = 3; decide) (by show ¬ (5 : Int) = 4; decide)) (fun x hx => ?_)⟩
 ·simp only [nF, nFs]; omega
 ·rw [szF_eq]
  simp only [Fm.ks, szFs]
  have := mx_or 0 (szF f).2
  rw [wr_fit _ ⟨by omega, by omega⟩]; omega
 ·simp only [Fm.ks, List.mem_singleton] at hx; subst hx; exact h.z
theorem Gd.two {d : Dm} {k e k' e' o : Int} {f g : Fm} (h : Gd d k e f) (h' : Gd d k' e' g) (ho : o = 6 ∨ o = 7) (hk : k ≤ 1000) (he : e ≤ 1000) (hk' : k' ≤ 1000) (he' : e' ≤ e) : Gd d (k + k' + 1) (e + 1) (.mk o ⟨#[]⟩ 0 0 [f, g]) := by
 have hn := h.n
 have hn' := h'.n
 have hs := szF_ok f (by omega)
 have hs' := szF_ok g (by omega)
 have h1 := h.e
 have h1' := h'.e
 refine ⟨?_, ?_, errF_mk (one_op (by rcases ho with rfl | rfl <;> rfl) (by rcases ho with rfl | rfl <;> (simp only [Fm.op]; decide)) (by rcases ho with rfl | rfl <;> (simp only [Fm.op]; decide))) (fun x hx => ?_)⟩
 ·simp only [nF, nFs]; omega
 ·rw [szF_eq]
  simp only [Fm.ks, szFs]
  have m1 := mx_or 0 (szF f).2
  have m2 := mx_or (mx 0 (szF f).2) (szF g).2
  rw [wr_fit _ ⟨by omega, by omega⟩]; omega
 ·simp only [Fm.ks, List.mem_cons, List.not_mem_nil, or_false] at hx
  rcases hx with rfl | rfl
  ·exact h.z
  ·exact h'.z
theorem val_and (d : Dm) (c : List Int) (l : List ByteArray) (f g : Fm) : valF d c l (.mk 6 ⟨#[]⟩ 0 0 [f, g]) = (valF d c l f && valF d c l g) := by
 rw [valF_eq]
 simp [Fm.op, Fm.ks, valAll]
end Go.Proofs.YtphmhelkojdlaaaDoor
namespace Go.Proofs.YtphmhelkojdlaaaDoor
open Go.RowKit
set_option linter.unusedSimpArgs false
set_option linter.unusedVariables false
theorem allr_step {α : Type} {l : List α} {p : α → Bool} {i : Nat} (d : α) (h : i < l.length) (hi : (l.drop i).all p = l.all p) (hp : p (l.getD i d) = true) : (l.drop (i + 1)).all p = l.all p := by
 rw [drop_get l i d h, List.all_cons, hp, Bool.true_and] at hi; exact hi
theorem allr_stop {α : Type} {l : List α} {p : α → Bool} {i : Nat} (d : α) (h : i < l.length) (hi : (l.drop i).all p = l.all p) (hp : p (l.getD i d) = false) : l.all p = false := by
 rw [drop_get l i d h, List.all_cons, hp, Bool.false_and] at hi; exact hi.symm
theorem allr_end {α : Type} {l : List α} {p : α → Bool} {i : Nat} (h : l.length ≤ i) (hi : (l.drop i).all p = l.all p) : l.all p = true := by
 rw [List.drop_of_length_le h] at hi; exact hi.symm
/-- Two lists, compared place by place. -/
def same2 {α : Type} (p : α → α → Bool) (d : α) : List α → List α → Bool
 | [], _ => true
 | x :: r, m => p x (m.getD 0 d) && same2 p d r (m.drop 1)
def all2 {α : Type} (p : α → α → Bool) (d : α) (l m : List α) : Bool := decide (l.length = m.length) && same2 p d l m
theorem same2_step {α : Type} {p : α → α → Bool} {d : α} {l m : List α} {i : Nat} (h : i < l.length) (hi : same2 p d (l.drop i) (m.drop i) = same2 p d l m) (hp : p (l.getD i d) (m.getD i d) = true) :
  same2 p d (l.drop (i + 1)) (m.drop (i + 1)) = same2 p d l m := by
 rw [drop_get l i d h, same2, getD_drop, hp, Bool.true_and, List.drop_drop] at hi; exact hi
theorem same2_stop {α : Type} {p : α → α → Bool} {d : α} {l m : List α} {i : Nat} (h : i < l.length) (hi : same2 p d (l.drop i) (m.drop i) = same2 p d l m) (hp : p (l.getD i d) (m.getD i d) = false) :
  same2 p d l m = false := by
 rw [drop_get l i d h, same2, getD_drop, hp, Bool.false_and] at hi; exact hi.symm
theorem same2_end {α : Type} {p : α → α → Bool} {d : α} {l m : List α} {i : Nat} (h : l.length ≤ i) (hi : same2 p d (l.drop i) (m.drop i) = same2 p d l m) : same2 p d l m = true := by
 rw [List.drop_of_length_le h] at hi; exact hi.symm
def smallF (f : Fm) (m : Int) : Bool := decide (cntF f m ≤ m)
def sameS (r s : Sn) : Bool := !(((!decide (r.a = s.a)) || (!decide (r.b = s.b))) || !sameF r.f s.f)
def okR (r : Ru) : Bool := !((((!smallF r.f 250) || decide ((100 : Int) < (r.id.size : Int))) || decide ((100 : Int) < (r.tg.size : Int))) || decide ((100 : Int) < (r.lf.size : Int)))
def fewR (l : List Ru) (n : Int) : Bool := decide ((l.length : Int) ≤ n) && l.all okR
def okS (s : Sn) : Bool := smallF s.f 250
def shortS (l : List Sn) (n : Int) : Bool := decide ((l.length : Int) ≤ n) && l.all okS
/-- A span has a day. -/
def hasS (s : Sn) (n : Int) : Bool := decide (s.a ≤ n) && (decide (s.b = -1) || decide (n < s.b))
def onS : List Sn → Int → Fm × Bool
 | [], _ => (Fm.z, false)
 | s :: r, n => bif hasS s n then (s.f, true) else onS r n
end Go.Proofs.YtphmhelkojdlaaaDoor
namespace Go.Proofs.YtphmhelkojdlaaaDoor
open Go.RowKit
set_option maxRecDepth 10000
set_option linter.unusedSimpArgs false
set_option linter.unusedVariables false
theorem c38 (l : (List Ru)) (n : Int)  : PureCall Tryd.prog 38 [.tv (.sli 13 (l.map celR)), .i n] (.b (fewR l n)) := by
 refine walk0 (fn := Tryd.f38) [.tmp 4] Tryd.func38 rfl (by kernel_rfl) rfl (by kernel_rfl) (by kernel_rfl) ?_
 change AT _ _ _ ⟨[(0, .tv (.sli 13 (l.map celR))), (1, .i n)], [], [], 0⟩
 refine at_len 0 rfl (fun hlen => ?_)
 refine at_B [0, 1] [] [] [(1000000, .any), (0, .tv (.sli 13 (l.map celR))), (1, .i n)] [] 1 (by kernel_rfl) ?_ ?_
 ·exact trivial
 refine at_seq ?_
 refine at_B [0, 1, 5] [] [] [(1000000, .any), (0, .tv (.sli 13 (l.map celR))), (1, .i n), (5, .i 0)] [] 2 (by kernel_rfl) ?_ ?_
 ·exact trivial
 refine at_block ?_
 refine at_loopR (X := Nat) 0 (fun (i : Nat) => [(1000000, .any), (0, .tv (.sli 13 (l.map celR))), (1, .i n), (5, .i ((i : Nat) : Int))]) (fun (i : Nat) => []) (fun (i : Nat) => i ≤ l.length ∧ (l.drop i).all okR = l.all okR) (fun (i : Nat) => l.length - i) 0 ?_ ?_ ?_
 ·exact ⟨Nat.zero_le _, rfl⟩
 ·exact rn_ok [] [] [0, 1, 5] (trivial) (by kernel_rfl)
 ·intro i hinv
  obtain ⟨hx1, hx2⟩ := hinv
  refine at_seq ?_
  refine at_B [0, 1, 5, 15] [] [] [(1000000, .any), (0, .tv (.sli 13 (l.map celR))), (1, .i n), (5, .i ((i : Nat) : Int)), (15, .b ((decide (((i : Nat) : Int) < (((l.map celR).length : Nat) : Int))) && (decide ((((l.map celR).length : Nat) : Int) ≤ n))))] [] 10 (by kernel_rfl) ?_ ?_
  ·exact trivial
  refine at_cond (b := ((decide (((i : Nat) : Int) < (((l.map celR).length : Nat) : Int))) && (decide ((((l.map celR).length : Nat) : Int) ≤ n)))) rfl rfl (fun hc15 => ?_) (fun hc15 => ?_)
  ·have q15 := hc15
   (try simp only [brs] at q15)
   refine at_skip ?_
   change AT _ _ _ _
   refine at_seq ?_
   refine at_block ?_
   refine at_B [0, 1, 5, 51] [.std, .std, .eq (.tv (.ptr (celR (l.getD i Ru.z)))), .std, .std, .ret (.b (smallF (l.getD i Ru.z).f 250)), .std, .std, .std, .std, .eq (.tv (.ptr (celR (l.getD i Ru.z)))), .std, .std, .std, .std, .std, .std, .std, .std, .eq (.tv (.ptr (celR (l.getD i Ru.z)))), .std, .std, .std, .std, .std, .std, .std, .std, .eq (.tv (.ptr (celR (l.getD i Ru.z))))] [(0 ≤ ((i : Nat) : Int) ∧ ((i : Nat) : Int) < ((((l.map celR) : List (List TV)).length : Nat) : Int)), (.tv (.ptr (rowAt (l.map celR) ((i : Nat) : Int))) : AV) = .tv (.ptr (celR (l.getD i Ru.z))), PureCall Tryd.prog 12 [agF (l.getD i Ru.z).f, .i 250] (.b (smallF (l.getD i Ru.z).f 250)), ((!(smallF (l.getD i Ru.z).f 250)) = false) → (0 ≤ ((i : Nat) : Int) ∧ ((i : Nat) : Int) < ((((l.map celR) : List (List TV)).length : Nat) : Int)), ((!(smallF (l.getD i Ru.z).f 250)) = false) → (.tv (.ptr (rowAt (l.map celR) ((i : Nat) : Int))) : AV) = .tv (.ptr (celR (l.getD i Ru.z))), (((!(smallF (l.getD i Ru.z).f 250)) || (decide ((100 : Int) < (((l.getD i Ru.z).id.size : Nat) : Int)))) = false) → (0 ≤ ((i : Nat) : Int) ∧ ((i : Nat) : Int) < ((((l.map celR) : List (List TV)).length : Nat) : Int)), (((!(smallF (l.getD i Ru.z).f 250)) || (decide ((100 : Int) < (((l.getD i Ru.z).id.size : Nat) : Int)))) = false) → (.tv (.ptr (rowAt (l.map celR) ((i : Nat) : Int))) : AV) = .tv (.ptr (celR (l.getD i Ru.z))), ((((!(smallF (l.getD i Ru.z).f 250)) || (decide ((100 : Int) < (((l.getD i Ru.z).id.size : Nat) : Int)))) || (decide ((100 : Int) < (((l.getD i Ru.z).tg.size : Nat) : Int)))) = false) → (0 ≤ ((i : Nat) : Int) ∧ ((i : Nat) : Int) < ((((l.map celR) : List (List TV)).length : Nat) : Int)), ((((!(smallF (l.getD i Ru.z).f 250)) || (decide ((100 : Int) < (((l.getD i Ru.z).id.size : Nat) : Int)))) || (decide ((100 : Int) < (((l.getD i Ru.z).tg.size : Nat) : Int)))) = false) → (.tv (.ptr (rowAt (l.map celR) ((i : Nat) : Int))) : AV) = .tv (.ptr (celR (l.getD i Ru.z)))] [(1000000, .any), (0, .tv (.sli 13 (l.map celR))), (1, .i n), (5, .i ((i : Nat) : Int)), (51, .b ((((!(smallF (l.getD i Ru.z).f 250)) || (decide ((100 : Int) < (((l.getD i Ru.z).id.size : Nat) : Int)))) || (decide ((100 : Int) < (((l.getD i Ru.z).tg.size : Nat) : Int)))) || (decide ((100 : Int) < (((l.getD i Ru.z).lf.size : Nat) : Int)))))] [] 44 (by kernel_rfl) ?_ ?_
   ·exact ⟨by (try simp only [lns] at *); omega, congrArg (fun c => AV.tv (.ptr c)) (row_R l ((i : Nat) : Int) (by (try simp only [brs, lns] at *); omega)), (c12 (l.getD i Ru.z).f 250), fun hg0 => by (try simp only [brs, lns] at *); omega, fun hg0 => congrArg (fun c => AV.tv (.ptr c)) (row_R l ((i : Nat) : Int) (by (try simp only [brs, lns] at *); omega)), fun hg0 => by (try simp only [brs, lns] at *); omega, fun hg0 => congrArg (fun c => AV.tv (.ptr c)) (row_R l ((i : Nat) : Int) (by (try simp only [brs, lns] at *); omega)), fun hg0 => by (try simp only [brs, lns] at *); omega, fun hg0 => congrArg (fun c => AV.tv (.ptr c)) (row_R l ((i : Nat) : Int) (by (try simp only [brs, lns] at *); omega)), trivial⟩
   refine at_cond (b := ((((!(smallF (l.getD i Ru.z).f 250)) || (decide ((100 : Int) < (((l.getD i Ru.z).id.size : Nat) : Int)))) || (decide ((100 : Int) < (((l.getD i Ru.z).tg.size : Nat) : Int)))) || (decide ((100 : Int) < (((l.getD i Ru.z).lf.size : Nat) : Int))))) rfl rfl (fun hc51 => ?_) (fun hc51 => ?_)
   ·have q51 := hc51
    (try simp only [brs] at q51)
    refine at_B [4] [] [] [(1000000, .any), (4, .b false)] [] 45 (by kernel_rfl) ?_ ?_
    ·exact trivial
    refine at_ret ?_
    refine fin0 (.inr rfl) (.b false) [] (.b false) (H2 := []) (by kernel_rfl) (by kernel_rfl) ?_
    refine Le.of_eq ?_
    rw [fewR, allr_stop (i := i) Ru.z (by omega) hx2 (by rw [okR, hc51]; rfl), Bool.and_false]
   ·have q51 := hc51
    (try simp only [brs] at q51)
    refine at_skip ?_
    change AT _ _ _ _
    refine at_Bl [0, 1, 5] [.std, .eq (.i ((i + 1 : Nat) : Int))] [(.i (wr (((i : Nat) : Int) + 1)) : AV) = .i ((i + 1 : Nat) : Int)] [(1000000, .any), (0, .tv (.sli 13 (l.map celR))), (1, .i n), (5, .i ((i + 1 : Nat) : Int))] [] 47 (by kernel_rfl) ?_ ?_
    ·exact ⟨succ_av i (by (try simp only [lns] at *); omega), trivial⟩
    refine ⟨rfl, (i + 1), ?_, ?_, ?_⟩
    ·(try dsimp only); omega
    ·exact ⟨by omega, allr_step Ru.z (by omega) hx2 (by rw [okR, hc51]; rfl)⟩
    ·exact rn_ok [] [] [0, 1, 5] (trivial) (by kernel_rfl)
  ·have q15 := hc15
   (try simp only [brs] at q15)
   refine at_exit ?_
   change AT _ _ _ _
   refine at_B [4] [] [] [(1000000, .any), (4, .b (decide ((((l.map celR).length : Nat) : Int) ≤ n)))] [] 8 (by kernel_rfl) ?_ ?_
   ·exact trivial
   refine at_ret ?_
   refine fin0 (.inr rfl) (.b (decide ((((l.map celR).length : Nat) : Int) ≤ n))) [] (.b (decide ((((l.map celR).length : Nat) : Int) ≤ n))) (H2 := []) (by kernel_rfl) (by kernel_rfl) ?_
   refine Le.of_eq ?_
   simp only [fewR]
   by_cases e : i < l.length
   ·have : ¬ ((l.length : Int) ≤ n) := by rcases q15 with q | q <;> omega
    simp [this]
   ·rw [allr_end (i := i) (by omega) hx2]; simp
theorem c37 (l : (List Sn)) (n : Int)  : PureCall Tryd.prog 37 [.tv (.sli 7 (l.map celS)), .i n] (.b (shortS l n)) := by
 refine walk0 (fn := Tryd.f37) [.tmp 4] Tryd.func37 rfl (by kernel_rfl) rfl (by kernel_rfl) (by kernel_rfl) ?_
 change AT _ _ _ ⟨[(0, .tv (.sli 7 (l.map celS))), (1, .i n)], [], [], 0⟩
 refine at_len 0 rfl (fun hlen => ?_)
 refine at_B [0, 1] [] [] [(1000000, .any), (0, .tv (.sli 7 (l.map celS))), (1, .i n)] [] 1 (by kernel_rfl) ?_ ?_
 ·exact trivial
 refine at_seq ?_
 refine at_B [0, 1, 5] [] [] [(1000000, .any), (0, .tv (.sli 7 (l.map celS))), (1, .i n), (5, .i 0)] [] 2 (by kernel_rfl) ?_ ?_
 ·exact trivial
 refine at_block ?_
 refine at_loopR (X := Nat) 0 (fun (i : Nat) => [(1000000, .any), (0, .tv (.sli 7 (l.map celS))), (1, .i n), (5, .i ((i : Nat) : Int))]) (fun (i : Nat) => []) (fun (i : Nat) => i ≤ l.length ∧ (l.drop i).all okS = l.all okS) (fun (i : Nat) => l.length - i) 0 ?_ ?_ ?_
 ·exact ⟨Nat.zero_le _, rfl⟩
 ·exact rn_ok [] [] [0, 1, 5] (trivial) (by kernel_rfl)
 ·intro i hinv
  obtain ⟨hx1, hx2⟩ := hinv
  refine at_seq ?_
  refine at_B [0, 1, 5, 15] [] [] [(1000000, .any), (0, .tv (.sli 7 (l.map celS))), (1, .i n), (5, .i ((i : Nat) : Int)), (15, .b ((decide (((i : Nat) : Int) < (((l.map celS).length : Nat) : Int))) && (decide ((((l.map celS).length : Nat) : Int) ≤ n))))] [] 10 (by kernel_rfl) ?_ ?_
  ·exact trivial
  refine at_cond (b := ((decide (((i : Nat) : Int) < (((l.map celS).length : Nat) : Int))) && (decide ((((l.map celS).length : Nat) : Int) ≤ n)))) rfl rfl (fun hc15 => ?_) (fun hc15 => ?_)
  ·have q15 := hc15
   (try simp only [brs] at q15)
   refine at_skip ?_
   change AT _ _ _ _
   refine at_seq ?_
   refine at_block ?_
   refine at_B [0, 1, 5, 24] [.std, .std, .eq (.tv (.ptr (celS (l.getD i Sn.z)))), .std, .std, .ret (.b (smallF (l.getD i Sn.z).f 250))] [(0 ≤ ((i : Nat) : Int) ∧ ((i : Nat) : Int) < ((((l.map celS) : List (List TV)).length : Nat) : Int)), (.tv (.ptr (rowAt (l.map celS) ((i : Nat) : Int))) : AV) = .tv (.ptr (celS (l.getD i Sn.z))), PureCall Tryd.prog 12 [agF (l.getD i Sn.z).f, .i 250] (.b (smallF (l.getD i Sn.z).f 250))] [(1000000, .any), (0, .tv (.sli 7 (l.map celS))), (1, .i n), (5, .i ((i : Nat) : Int)), (24, .b (!(smallF (l.getD i Sn.z).f 250)))] [] 17 (by kernel_rfl) ?_ ?_
   ·exact ⟨by (try simp only [lns] at *); omega, congrArg (fun c => AV.tv (.ptr c)) (row_S l ((i : Nat) : Int) (by (try simp only [brs, lns] at *); omega)), (c12 (l.getD i Sn.z).f 250), trivial⟩
   refine at_cond (b := (!(smallF (l.getD i Sn.z).f 250))) rfl rfl (fun hc24 => ?_) (fun hc24 => ?_)
   ·have q24 := hc24
    (try simp only [brs] at q24)
    refine at_B [4] [] [] [(1000000, .any), (4, .b false)] [] 18 (by kernel_rfl) ?_ ?_
    ·exact trivial
    refine at_ret ?_
    refine fin0 (.inr rfl) (.b false) [] (.b false) (H2 := []) (by kernel_rfl) (by kernel_rfl) ?_
    refine Le.of_eq ?_
    rw [shortS, allr_stop (i := i) Sn.z (by omega) hx2 (by rw [okS]; simpa using hc24), Bool.and_false]
   ·have q24 := hc24
    (try simp only [brs] at q24)
    refine at_skip ?_
    change AT _ _ _ _
    refine at_Bl [0, 1, 5] [.std, .eq (.i ((i + 1 : Nat) : Int))] [(.i (wr (((i : Nat) : Int) + 1)) : AV) = .i ((i + 1 : Nat) : Int)] [(1000000, .any), (0, .tv (.sli 7 (l.map celS))), (1, .i n), (5, .i ((i + 1 : Nat) : Int))] [] 20 (by kernel_rfl) ?_ ?_
    ·exact ⟨succ_av i (by (try simp only [lns] at *); omega), trivial⟩
    refine ⟨rfl, (i + 1), ?_, ?_, ?_⟩
    ·(try dsimp only); omega
    ·exact ⟨by omega, allr_step Sn.z (by omega) hx2 (by rw [okS]; simpa using hc24)⟩
    ·exact rn_ok [] [] [0, 1, 5] (trivial) (by kernel_rfl)
  ·have q15 := hc15
   (try simp only [brs] at q15)
   refine at_exit ?_
   change AT _ _ _ _
   refine at_B [4] [] [] [(1000000, .any), (4, .b (decide ((((l.map celS).length : Nat) : Int) ≤ n)))] [] 8 (by kernel_rfl) ?_ ?_
   ·exact trivial
   refine at_ret ?_
   refine fin0 (.inr rfl) (.b (decide ((((l.map celS).length : Nat) : Int) ≤ n))) [] (.b (decide ((((l.map celS).length : Nat) : Int) ≤ n))) (H2 := []) (by kernel_rfl) (by kernel_rfl) ?_
   refine Le.of_eq ?_
   simp only [shortS]
   by_cases e : i < l.length
   ·have : ¬ ((l.length : Int) ≤ n) := by rcases q15 with q | q <;> omega
    simp [this]
   ·rw [allr_end (i := i) (by omega) hx2]; simp
noncomputable abbrev b40_1 : Id × AO := ([0], .row [.i 0, .tv (.str ⟨#[]⟩), .i 0, .i 0, .tv .nils] false)
theorem c40 (l : (List Sn)) (n : Int)  : PureCall Tryd.prog 40 [.tv (.sli 7 (l.map celS)), .i n] (.tup [agF ((onS l n).1), .b ((onS l n).2)]) := by
 refine walk0 (fn := Tryd.f40) [.cell 4 24, .tmp 5] Tryd.func40 rfl (by kernel_rfl) rfl (by kernel_rfl) (by kernel_rfl) ?_
 change AT _ _ _ ⟨[(0, .tv (.sli 7 (l.map celS))), (1, .i n)], [], [], 0⟩
 refine at_len 0 rfl (fun hlen => ?_)
 refine at_B [0, 1, 4] [] [] [(1000000, .any), (0, .tv (.sli 7 (l.map celS))), (1, .i n), (4, .ptr [0] 0)] [b40_1] 2 (by kernel_rfl) ?_ ?_
 ·exact trivial
 refine at_seq ?_
 refine at_B [0, 1, 4, 6] [] [] [(1000000, .any), (0, .tv (.sli 7 (l.map celS))), (1, .i n), (4, .ptr [0] 0), (6, .i 0)] [b40_1] 3 (by kernel_rfl) ?_ ?_
 ·exact trivial
 refine at_block ?_
 refine at_loopR (X := Nat) 0 (fun (i : Nat) => [(1000000, .any), (0, .tv (.sli 7 (l.map celS))), (1, .i n), (4, .ptr [0] 0), (6, .i ((i : Nat) : Int))]) (fun (i : Nat) => [b40_1]) (fun (i : Nat) => i ≤ l.length ∧ onS (l.drop i) n = onS l n) (fun (i : Nat) => l.length - i) 0 ?_ ?_ ?_
 ·exact ⟨Nat.zero_le _, rfl⟩
 ·exact rn_ok [([0], [0])] [] [0, 1, 4, 6] (trivial) (by kernel_rfl)
 ·intro i hinv
  obtain ⟨hx1, hx2⟩ := hinv
  refine at_seq ?_
  refine at_B [0, 1, 4, 6, 10] [] [] [(1000000, .any), (0, .tv (.sli 7 (l.map celS))), (1, .i n), (4, .ptr [0] 0), (6, .i ((i : Nat) : Int)), (10, .b (decide (((i : Nat) : Int) < (((l.map celS).length : Nat) : Int))))] [b40_1] 4 (by kernel_rfl) ?_ ?_
  ·exact trivial
  refine at_cond (b := (decide (((i : Nat) : Int) < (((l.map celS).length : Nat) : Int)))) rfl rfl (fun hc10 => ?_) (fun hc10 => ?_)
  ·have q10 := hc10
   (try simp only [brs] at q10)
   refine at_skip ?_
   change AT _ _ _ _
   refine at_seq ?_
   refine at_block ?_
   refine at_B [0, 1, 4, 6, 36] [.std, .std, .eq (.tv (.ptr (celS (l.getD i Sn.z)))), .std, .std, .std, .std, .std, .std, .std, .eq (.tv (.ptr (celS (l.getD i Sn.z)))), .std, .std, .std, .std, .std, .std, .std, .eq (.tv (.ptr (celS (l.getD i Sn.z))))] [(0 ≤ ((i : Nat) : Int) ∧ ((i : Nat) : Int) < ((((l.map celS) : List (List TV)).length : Nat) : Int)), (.tv (.ptr (rowAt (l.map celS) ((i : Nat) : Int))) : AV) = .tv (.ptr (celS (l.getD i Sn.z))), ((decide ((l.getD i Sn.z).a ≤ n)) = true) → (0 ≤ ((i : Nat) : Int) ∧ ((i : Nat) : Int) < ((((l.map celS) : List (List TV)).length : Nat) : Int)), ((decide ((l.getD i Sn.z).a ≤ n)) = true) → (.tv (.ptr (rowAt (l.map celS) ((i : Nat) : Int))) : AV) = .tv (.ptr (celS (l.getD i Sn.z))), ((decide ((l.getD i Sn.z).b = (-1))) = false) → ((decide ((l.getD i Sn.z).a ≤ n)) = true) → (0 ≤ ((i : Nat) : Int) ∧ ((i : Nat) : Int) < ((((l.map celS) : List (List TV)).length : Nat) : Int)), ((decide ((l.getD i Sn.z).b = (-1))) = false) → ((decide ((l.getD i Sn.z).a ≤ n)) = true) → (.tv (.ptr (rowAt (l.map celS) ((i : Nat) : Int))) : AV) = .tv (.ptr (celS (l.getD i Sn.z)))] [(1000000, .any), (0, .tv (.sli 7 (l.map celS))), (1, .i n), (4, .ptr [0] 0), (6, .i ((i : Nat) : Int)), (36, .b ((decide ((l.getD i Sn.z).a ≤ n)) && ((decide ((l.getD i Sn.z).b = (-1))) || (decide (n < (l.getD i Sn.z).b)))))] [b40_1] 28 (by kernel_rfl) ?_ ?_
   ·exact ⟨by (try simp only [lns] at *); omega, congrArg (fun c => AV.tv (.ptr c)) (row_S l ((i : Nat) : Int) (by (try simp only [brs, lns] at *); omega)), fun hg0 => by (try simp only [brs, lns] at *); omega, fun hg0 => congrArg (fun c => AV.tv (.ptr c)) (row_S l ((i : Nat) : Int) (by (try simp only [brs, lns] at *); omega)), fun hg0 hg1 => by (try simp only [brs, lns] at *); omega, fun hg0 hg1 => congrArg (fun c => AV.tv (.ptr c)) (row_S l ((i : Nat) : Int) (by (try simp only [brs, lns] at *); omega)), trivial⟩
   refine at_cond (b := ((decide ((l.getD i Sn.z).a ≤ n)) && ((decide ((l.getD i Sn.z).b = (-1))) || (decide (n < (l.getD i Sn.z).b))))) rfl rfl (fun hc36 => ?_) (fun hc36 => ?_)
   ·have q36 := hc36
    (try simp only [brs] at q36)
    refine at_B [4, 5] [.std, .std, .eq (.tv (.ptr (celS (l.getD i Sn.z))))] [(0 ≤ ((i : Nat) : Int) ∧ ((i : Nat) : Int) < ((((l.map celS) : List (List TV)).length : Nat) : Int)), (.tv (.ptr (rowAt (l.map celS) ((i : Nat) : Int))) : AV) = .tv (.ptr (celS (l.getD i Sn.z)))] [(1000000, .any), (4, .ptr [0] 0), (5, .b true)] [([0], .row ((celF (l.getD i Sn.z).f).map .tv) false)] 35 (by kernel_rfl) ?_ ?_
    ·exact ⟨by (try simp only [lns] at *); omega, congrArg (fun c => AV.tv (.ptr c)) (row_S l ((i : Nat) : Int) (by (try simp only [brs, lns] at *); omega)), trivial⟩
    refine at_ret ?_
    refine fin0 (.inr rfl) (.tup [agF (l.getD i Sn.z).f, .b true]) [([0], .row ((celF (l.getD i Sn.z).f).map .tv) false)] (.tup [agF (l.getD i Sn.z).f, .b true]) (H2 := [([0], .row ((celF (l.getD i Sn.z).f).map .tv) false)]) (by kernel_rfl) (by kernel_rfl) ?_
    refine Le.of_eq ?_
    rw [← hx2, drop_get l i Sn.z (by omega), onS, hasS, hc36]; rfl
   ·have q36 := hc36
    (try simp only [brs] at q36)
    refine at_skip ?_
    change AT _ _ _ _
    refine at_Bl [0, 1, 4, 6] [.std, .eq (.i ((i + 1 : Nat) : Int))] [(.i (wr (((i : Nat) : Int) + 1)) : AV) = .i ((i + 1 : Nat) : Int)] [(1000000, .any), (0, .tv (.sli 7 (l.map celS))), (1, .i n), (4, .ptr [0] 0), (6, .i ((i + 1 : Nat) : Int))] [b40_1] 31 (by kernel_rfl) ?_ ?_
    ·exact ⟨succ_av i (by (try simp only [lns] at *); omega), trivial⟩
    refine ⟨rfl, (i + 1), ?_, ?_, ?_⟩
    ·(try dsimp only); omega
    ·exact ⟨by omega, by rw [← hx2, drop_get l i Sn.z (by omega), onS, hasS, hc36]; rfl⟩
    ·exact rn_ok [([0], [0])] [] [0, 1, 4, 6] (trivial) (by kernel_rfl)
  ·have q10 := hc10
   (try simp only [brs] at q10)
   refine at_exit ?_
   change AT _ _ _ _
   refine at_B [4, 5] [] [] [(1000000, .any), (4, .ptr [0] 0), (5, .b false)] [b40_1] 7 (by kernel_rfl) ?_ ?_
   ·exact trivial
   refine at_ret ?_
   refine fin0 (.inr rfl) (.tup [.agg [.i 0, .tv (.str ⟨#[]⟩), .i 0, .i 0, .tv .nils], .b false]) [b40_1] (.tup [.agg [.i 0, .tv (.str ⟨#[]⟩), .i 0, .i 0, .tv .nils], .b false]) (H2 := [b40_1]) (by kernel_rfl) (by kernel_rfl) ?_
   refine Le.trans (b := .tup [.agg [.i 0, .tv (.str ⟨#[]⟩), .i 0, .i 0, .tv (.sli 5 (([] : List _).map encF))], .b false]) (Le.tup (.cons (Le.agg (.cons (Le.refl _) (.cons (Le.refl _) (.cons (Le.refl _) (.cons (Le.refl _) (.cons (Le.nils 5) .nil)))))) (.cons (Le.refl _) .nil))) (Le.of_eq ?_)
   rw [← hx2, List.drop_of_length_le (by omega)]; rfl
theorem c66 (l : (List Sn)) (m : (List Sn))  : PureCall Tryd.prog 66 [.tv (.sli 7 (l.map celS)), .tv (.sli 7 (m.map celS))] (.b (all2 sameS Sn.z l m)) := by
 refine walk0 (fn := Tryd.f66) [.tmp 4] Tryd.func66 rfl (by kernel_rfl) rfl (by kernel_rfl) (by kernel_rfl) ?_
 change AT _ _ _ ⟨[(0, .tv (.sli 7 (l.map celS))), (1, .tv (.sli 7 (m.map celS)))], [], [], 0⟩
 refine at_len 0 rfl (fun hlen => ?_)
 refine at_len 1 rfl (fun hlen2 => ?_)
 refine at_B [0, 1] [] [] [(1000000, .any), (0, .tv (.sli 7 (l.map celS))), (1, .tv (.sli 7 (m.map celS)))] [] 1 (by kernel_rfl) ?_ ?_
 ·exact trivial
 refine at_seq ?_
 refine at_B [0, 1, 10] [] [] [(1000000, .any), (0, .tv (.sli 7 (l.map celS))), (1, .tv (.sli 7 (m.map celS))), (10, .b (!decide ((((l.map celS).length : Nat) : Int) = (((m.map celS).length : Nat) : Int))))] [] 6 (by kernel_rfl) ?_ ?_
 ·exact trivial
 refine at_cond (b := (!decide ((((l.map celS).length : Nat) : Int) = (((m.map celS).length : Nat) : Int)))) rfl rfl (fun hc10 => ?_) (fun hc10 => ?_)
 ·have q10 := hc10
  (try simp only [brs] at q10)
  refine at_B [4] [] [] [(1000000, .any), (4, .b false)] [] 7 (by kernel_rfl) ?_ ?_
  ·exact trivial
  refine at_ret ?_
  refine fin0 (.inr rfl) (.b false) [] (.b false) (H2 := []) (by kernel_rfl) (by kernel_rfl) ?_
  refine Le.of_eq ?_
  rw [all2]; simp; omega
 ·have q10 := hc10
  (try simp only [brs] at q10)
  refine at_skip ?_
  change AT _ _ _ _
  refine at_seq ?_
  refine at_B [0, 1, 5] [] [] [(1000000, .any), (0, .tv (.sli 7 (l.map celS))), (1, .tv (.sli 7 (m.map celS))), (5, .i 0)] [] 7 (by kernel_rfl) ?_ ?_
  ·exact trivial
  refine at_block ?_
  have hl : l.length = m.length := by omega
  refine at_loopR (X := Nat) 0 (fun (i : Nat) => [(1000000, .any), (0, .tv (.sli 7 (l.map celS))), (1, .tv (.sli 7 (m.map celS))), (5, .i ((i : Nat) : Int))]) (fun (i : Nat) => []) (fun (i : Nat) => i ≤ l.length ∧ same2 sameS Sn.z (l.drop i) (m.drop i) = same2 sameS Sn.z l m) (fun (i : Nat) => l.length - i) 0 ?_ ?_ ?_
  ·exact ⟨Nat.zero_le _, rfl⟩
  ·exact rn_ok [] [] [0, 1, 5] (trivial) (by kernel_rfl)
  ·intro i hinv
   obtain ⟨hx1, hx2⟩ := hinv
   refine at_seq ?_
   refine at_B [0, 1, 5, 14] [] [] [(1000000, .any), (0, .tv (.sli 7 (l.map celS))), (1, .tv (.sli 7 (m.map celS))), (5, .i ((i : Nat) : Int)), (14, .b (decide (((i : Nat) : Int) < (((l.map celS).length : Nat) : Int))))] [] 4 (by kernel_rfl) ?_ ?_
   ·exact trivial
   refine at_cond (b := (decide (((i : Nat) : Int) < (((l.map celS).length : Nat) : Int)))) rfl rfl (fun hc14 => ?_) (fun hc14 => ?_)
   ·have q14 := hc14
    (try simp only [brs] at q14)
    refine at_skip ?_
    change AT _ _ _ _
    refine at_seq ?_
    refine at_block ?_
    refine at_D [none, none, none, none, some [], none, none, none, none, some [], none, none, none, none, none, none, some [], none, none, none, none, some [], none, none, none, none, none, none, none, some [], none, none, none, none, some []] [0, 0, 3, 7, 15, 0, 0, 96, 224, 480, 1023, 2047, 4095, 4095, 16383, 32767, 65535, 4095, 4095, 397311, 921599, 1970175, 4194303, 8388607, 16777215, 33554431, 33554431, 134217727, 268435455, 536870911, 33554431, 33554431, 3254779903, 7549747199, 16139681791, 34359738367, 68719476735, 137438953471] [0, 1, 5, 54] [.std, .std, .eq (.tv (.ptr (celS (l.getD i Sn.z)))), .std, .std, .std, .std, .eq (.tv (.ptr (celS (m.getD i Sn.z)))), .std, .std, .std, .std, .std, .std, .eq (.tv (.ptr (celS (l.getD i Sn.z)))), .std, .std, .std, .std, .eq (.tv (.ptr (celS (m.getD i Sn.z)))), .std, .std, .std, .std, .std, .std, .std, .eq (.tv (.ptr (celS (l.getD i Sn.z)))), .std, .std, .std, .std, .eq (.tv (.ptr (celS (m.getD i Sn.z)))), .std, .std, .ret (.b (sameF (l.getD i Sn.z).f (m.getD i Sn.z).f))] [(0 ≤ ((i : Nat) : Int) ∧ ((i : Nat) : Int) < ((((l.map celS) : List (List TV)).length : Nat) : Int)), (.tv (.ptr (rowAt (l.map celS) ((i : Nat) : Int))) : AV) = .tv (.ptr (celS (l.getD i Sn.z))), (0 ≤ ((i : Nat) : Int) ∧ ((i : Nat) : Int) < ((((m.map celS) : List (List TV)).length : Nat) : Int)), (.tv (.ptr (rowAt (m.map celS) ((i : Nat) : Int))) : AV) = .tv (.ptr (celS (m.getD i Sn.z))), ((!decide ((l.getD i Sn.z).a = (m.getD i Sn.z).a)) = false) → (0 ≤ ((i : Nat) : Int) ∧ ((i : Nat) : Int) < ((((l.map celS) : List (List TV)).length : Nat) : Int)), ((!decide ((l.getD i Sn.z).a = (m.getD i Sn.z).a)) = false) → (.tv (.ptr (rowAt (l.map celS) ((i : Nat) : Int))) : AV) = .tv (.ptr (celS (l.getD i Sn.z))), ((!decide ((l.getD i Sn.z).a = (m.getD i Sn.z).a)) = false) → (0 ≤ ((i : Nat) : Int) ∧ ((i : Nat) : Int) < ((((m.map celS) : List (List TV)).length : Nat) : Int)), ((!decide ((l.getD i Sn.z).a = (m.getD i Sn.z).a)) = false) → (.tv (.ptr (rowAt (m.map celS) ((i : Nat) : Int))) : AV) = .tv (.ptr (celS (m.getD i Sn.z))), (((!decide ((l.getD i Sn.z).a = (m.getD i Sn.z).a)) || (!decide ((l.getD i Sn.z).b = (m.getD i Sn.z).b))) = false) → (0 ≤ ((i : Nat) : Int) ∧ ((i : Nat) : Int) < ((((l.map celS) : List (List TV)).length : Nat) : Int)), (((!decide ((l.getD i Sn.z).a = (m.getD i Sn.z).a)) || (!decide ((l.getD i Sn.z).b = (m.getD i Sn.z).b))) = false) → (.tv (.ptr (rowAt (l.map celS) ((i : Nat) : Int))) : AV) = .tv (.ptr (celS (l.getD i Sn.z))), (((!decide ((l.getD i Sn.z).a = (m.getD i Sn.z).a)) || (!decide ((l.getD i Sn.z).b = (m.getD i Sn.z).b))) = false) → (0 ≤ ((i : Nat) : Int) ∧ ((i : Nat) : Int) < ((((m.map celS) : List (List TV)).length : Nat) : Int)), (((!decide ((l.getD i Sn.z).a = (m.getD i Sn.z).a)) || (!decide ((l.getD i Sn.z).b = (m.getD i Sn.z).b))) = false) → (.tv (.ptr (rowAt (m.map celS) ((i : Nat) : Int))) : AV) = .tv (.ptr (celS (m.getD i Sn.z))), (((!decide ((l.getD i Sn.z).a = (m.getD i Sn.z).a)) || (!decide ((l.getD i Sn.z).b = (m.getD i Sn.z).b))) = false) → PureCall Tryd.prog 22 [agF (l.getD i Sn.z).f, agF (m.getD i Sn.z).f] (.b (sameF (l.getD i Sn.z).f (m.getD i Sn.z).f))] [(1000000, .any), (0, .tv (.sli 7 (l.map celS))), (1, .tv (.sli 7 (m.map celS))), (5, .i ((i : Nat) : Int)), (54, .b (((!decide ((l.getD i Sn.z).a = (m.getD i Sn.z).a)) || (!decide ((l.getD i Sn.z).b = (m.getD i Sn.z).b))) || (!(sameF (l.getD i Sn.z).f (m.getD i Sn.z).f))))] [] 42 (by kernel_rfl) ?_ ?_
    ·exact ⟨by (try simp only [lns] at *); omega, congrArg (fun c => AV.tv (.ptr c)) (row_S l ((i : Nat) : Int) (by (try simp only [brs, lns] at *); omega)), by (try simp only [lns] at *); omega, congrArg (fun c => AV.tv (.ptr c)) (row_S m ((i : Nat) : Int) (by (try simp only [brs, lns] at *); omega)), fun hg0 => by (try simp only [brs, lns] at *); omega, fun hg0 => congrArg (fun c => AV.tv (.ptr c)) (row_S l ((i : Nat) : Int) (by (try simp only [brs, lns] at *); omega)), fun hg0 => by (try simp only [brs, lns] at *); omega, fun hg0 => congrArg (fun c => AV.tv (.ptr c)) (row_S m ((i : Nat) : Int) (by (try simp only [brs, lns] at *); omega)), fun hg0 => by (try simp only [brs, lns] at *); omega, fun hg0 => congrArg (fun c => AV.tv (.ptr c)) (row_S l ((i : Nat) : Int) (by (try simp only [brs, lns] at *); omega)), fun hg0 => by (try simp only [brs, lns] at *); omega, fun hg0 => congrArg (fun c => AV.tv (.ptr c)) (row_S m ((i : Nat) : Int) (by (try simp only [brs, lns] at *); omega)), fun hg0 => (c22 (l.getD i Sn.z).f (m.getD i Sn.z).f), trivial⟩
    refine at_cond (b := (((!decide ((l.getD i Sn.z).a = (m.getD i Sn.z).a)) || (!decide ((l.getD i Sn.z).b = (m.getD i Sn.z).b))) || (!(sameF (l.getD i Sn.z).f (m.getD i Sn.z).f)))) rfl rfl (fun hc54 => ?_) (fun hc54 => ?_)
    ·have q54 := hc54
     (try simp only [brs] at q54)
     refine at_B [4] [] [] [(1000000, .any), (4, .b false)] [] 43 (by kernel_rfl) ?_ ?_
     ·exact trivial
     refine at_ret ?_
     refine fin0 (.inr rfl) (.b false) [] (.b false) (H2 := []) (by kernel_rfl) (by kernel_rfl) ?_
     refine Le.of_eq ?_
     rw [all2, same2_stop (i := i) (by omega) hx2 (by rw [sameS, hc54]; rfl), Bool.and_false]
    ·have q54 := hc54
     (try simp only [brs] at q54)
     refine at_skip ?_
     change AT _ _ _ _
     refine at_Bl [0, 1, 5] [.std, .eq (.i ((i + 1 : Nat) : Int))] [(.i (wr (((i : Nat) : Int) + 1)) : AV) = .i ((i + 1 : Nat) : Int)] [(1000000, .any), (0, .tv (.sli 7 (l.map celS))), (1, .tv (.sli 7 (m.map celS))), (5, .i ((i + 1 : Nat) : Int))] [] 45 (by kernel_rfl) ?_ ?_
     ·exact ⟨succ_av i (by (try simp only [lns] at *); omega), trivial⟩
     refine ⟨rfl, (i + 1), ?_, ?_, ?_⟩
     ·(try dsimp only); omega
     ·exact ⟨by omega, same2_step (by omega) hx2 (by rw [sameS, hc54]; rfl)⟩
     ·exact rn_ok [] [] [0, 1, 5] (trivial) (by kernel_rfl)
   ·have q14 := hc14
    (try simp only [brs] at q14)
    refine at_exit ?_
    change AT _ _ _ _
    refine at_B [4] [] [] [(1000000, .any), (4, .b true)] [] 9 (by kernel_rfl) ?_ ?_
    ·exact trivial
    refine at_ret ?_
    refine fin0 (.inr rfl) (.b true) [] (.b true) (H2 := []) (by kernel_rfl) (by kernel_rfl) ?_
    refine Le.of_eq ?_
    rw [all2, same2_end (i := i) (by omega) hx2]; simp [hl]
def liftR (id : ByteArray) (o : ByteArray) : Ru := (Ru.mk id ⟨#[112]⟩ 6 0 0 (Fm.mk 0 ⟨#[]⟩ 0 0 []) 0 false o)
noncomputable abbrev b65_1 (id : ByteArray) (o : ByteArray) : Id × AO := ([0], .row [.tv (.str id), .tv (.str ⟨#[112]⟩), .i 6, .i 0, .i 0, .i 0, .tv (.str ⟨#[]⟩), .i 0, .i 0, .tv .nils, .i 0, .b false, .tv (.str o)] false)
theorem c65 (id : ByteArray) (o : ByteArray)  : PureCall Tryd.prog 65 [.tv (.str id), .tv (.str o)] (agR (liftR id o)) := by
 refine walk0 (fn := Tryd.f65) [.cell 4 63] Tryd.func65 rfl (by kernel_rfl) rfl (by kernel_rfl) (by kernel_rfl) ?_
 change AT _ _ _ ⟨[(0, .tv (.str id)), (1, .tv (.str o))], [], [], 0⟩
 refine at_B [0, 1, 4] [] [] [(1000000, .any), (0, .tv (.str id)), (1, .tv (.str o)), (4, .ptr [0] 0)] [([0], .row [.tv (.str ⟨#[]⟩), .tv (.str ⟨#[]⟩), .i 0, .i 0, .i 0, .i 0, .tv (.str ⟨#[]⟩), .i 0, .i 0, .tv .nils, .i 0, .b false, .tv (.str ⟨#[]⟩)] false)] 1 (by kernel_rfl) ?_ ?_
 ·exact trivial
 refine at_B [4] [] [] [(1000000, .any), (4, .ptr [0] 0)] [(b65_1 id o)] 5 (by kernel_rfl) ?_ ?_
 ·exact trivial
 refine at_ret ?_
 refine fin0 (.inr rfl) (.agg [.tv (.str id), .tv (.str ⟨#[112]⟩), .i 6, .i 0, .i 0, .i 0, .tv (.str ⟨#[]⟩), .i 0, .i 0, .tv .nils, .i 0, .b false, .tv (.str o)]) [(b65_1 id o)] (.agg [.tv (.str id), .tv (.str ⟨#[112]⟩), .i 6, .i 0, .i 0, .i 0, .tv (.str ⟨#[]⟩), .i 0, .i 0, .tv .nils, .i 0, .b false, .tv (.str o)]) (H2 := [(b65_1 id o)]) (by kernel_rfl) (by kernel_rfl) ?_
 refine Le.trans (b := .agg [.tv (.str id), .tv (.str ⟨#[112]⟩), .i 6, .i 0, .i 0, .i 0, .tv (.str ⟨#[]⟩), .i 0, .i 0, .tv (.sli 5 (([] : List _).map encF)), .i 0, .b false, .tv (.str o)]) (Le.agg (.cons (Le.refl _) (.cons (Le.refl _) (.cons (Le.refl _) (.cons (Le.refl _) (.cons (Le.refl _) (.cons (Le.refl _) (.cons (Le.refl _) (.cons (Le.refl _) (.cons (Le.refl _) (.cons (Le.nils 5) (.cons (Le.refl _) (.cons (Le.refl _) (.cons (Le.refl _) .nil)))))))))))))) (Le.of_eq ?_)
 first | rfl | (simp only [liftR, cond_true, cond_false]; done) | (simp only [liftR, cond_true, cond_false]; rfl)
def yesF  : Fm := (Fm.mk 1 ⟨#[]⟩ 0 0 [])
noncomputable abbrev b63_1 : Id × AO := ([0], .row [.i 1, .tv (.str ⟨#[]⟩), .i 0, .i 0, .tv .nils] false)
theorem c63   : PureCall Tryd.prog 63 [] (agF yesF) := by
 refine walk0 (fn := Tryd.f63) [.cell 0 24] Tryd.func63 rfl (by kernel_rfl) rfl (by kernel_rfl) (by kernel_rfl) ?_
 change AT _ _ _ ⟨[], [], [], 0⟩
 refine at_B [0] [] [] [(1000000, .any), (0, .ptr [0] 0)] [([0], .row [.i 0, .tv (.str ⟨#[]⟩), .i 0, .i 0, .tv .nils] false)] 1 (by kernel_rfl) ?_ ?_
 ·exact trivial
 refine at_B [0] [] [] [(1000000, .any), (0, .ptr [0] 0)] [b63_1] 3 (by kernel_rfl) ?_ ?_
 ·exact trivial
 refine at_ret ?_
 refine fin0 (.inr rfl) (.agg [.i 1, .tv (.str ⟨#[]⟩), .i 0, .i 0, .tv .nils]) [b63_1] (.agg [.i 1, .tv (.str ⟨#[]⟩), .i 0, .i 0, .tv .nils]) (H2 := [b63_1]) (by kernel_rfl) (by kernel_rfl) ?_
 refine Le.trans (b := .agg [.i 1, .tv (.str ⟨#[]⟩), .i 0, .i 0, .tv (.sli 5 (([] : List _).map encF))]) (Le.agg (.cons (Le.refl _) (.cons (Le.refl _) (.cons (Le.refl _) (.cons (Le.refl _) (.cons (Le.nils 5) .nil)))))) (Le.of_eq ?_)
 first | rfl | (simp only [yesF, cond_true, cond_false]; done) | (simp only [yesF, cond_true, cond_false]; rfl)
end Go.Proofs.YtphmhelkojdlaaaDoor
namespace Go.Proofs.YtphmhelkojdlaaaDoor
open Go.RowKit
set_option linter.unusedSimpArgs false
set_option linter.unusedVariables false
theorem nameP_no {s : ByteArray} {i : Nat} (h : i < s.size) (hb : badN s i = true) : nameP s = false := by
 unfold nameP
 have : ((List.range s.size).all fun i => !badN s i) = false := by
  rw [List.all_eq_false]
  exact ⟨i, List.mem_range.2 h, by simp [hb]⟩
 rw [this]; rfl
theorem nameP_yes {s : ByteArray} {n : Nat} (hn : s.size ≤ n) (h : ∀ j, j < n → badN s j = false) : nameP s = (decide (0 < (s.size : Int)) && decide ((s.size : Int) ≤ 24)) := by
 unfold nameP
 have : ((List.range s.size).all fun i => !badN s i) = true := by
  rw [List.all_eq_true]
  intro x hx
  rw [h x (by have := List.mem_range.1 hx; omega)]; rfl
 rw [this, Bool.true_and]
def badDay (n : Int) : Bool := decide (n < 0) || decide (1000000 < n)
def daysP (l : List Int) : Bool := !l.any badDay
end Go.Proofs.YtphmhelkojdlaaaDoor
namespace Go.Proofs.YtphmhelkojdlaaaDoor
open Go.RowKit
set_option maxRecDepth 10000
set_option linter.unusedSimpArgs false
set_option linter.unusedVariables false
noncomputable abbrev b69_1 (f : Fm) (i : Nat) : Id × AO := ([3, 8], .row ((celF (f.ks.getD i Fm.z)).map .tv) false)
theorem c69 : ∀ (f : Fm), PureCall Tryd.prog 69 [agF f] (.tup [.i ((szF f).1), .i ((szF f).2)]) := by
 refine Fm.ind (fun f ih => ?_)
 refine walk0 (fn := Tryd.f69) [.tmp 2, .tmp 3] Tryd.func69 rfl (by kernel_rfl) rfl (by kernel_rfl) (by kernel_rfl) ?_
 change AT _ _ _ ⟨[(0, agF f)], [], [], 0⟩
 refine at_B [1, 3] [] [] [(1000000, .any), (1, .ptr [0] 0), (3, .i 0)] [([0], .row ((celF f).map .tv) false)] 3 (by kernel_rfl) ?_ ?_
 ·exact trivial
 refine at_B [1, 2, 3] [] [] [(1000000, .any), (1, .ptr [0] 0), (2, .i 1), (3, .i 0)] [([0], .row ((celF f).map .tv) false)] 4 (by kernel_rfl) ?_ ?_
 ·exact trivial
 refine at_seq ?_
 refine at_B [2, 3, 9, 10, 11] [] [] [(1000000, .any), (2, .i 1), (3, .i 0), (9, .tv (.sli 5 (f.ks.map encF))), (10, .i (((f.ks.map encF).length : Nat) : Int)), (11, .i 0)] [([0], .row ((celF f).map .tv) false)] 8 (by kernel_rfl) ?_ ?_
 ·exact trivial
 refine at_block ?_
 refine at_len 9 rfl (fun hlen => ?_)
 refine at_loopR (X := Nat × Int × Int) 0 (fun ((i, a, d) : Nat × Int × Int) => [(1000000, .any), (2, .i a), (3, .i d), (9, .tv (.sli 5 (f.ks.map encF))), (10, .i (((f.ks.map encF).length : Nat) : Int)), (11, .i ((i : Nat) : Int))]) (fun ((i, a, d) : Nat × Int × Int) => [([0], .row ((celF f).map .tv) false)]) (fun ((i, a, d) : Nat × Int × Int) => i ≤ f.ks.length ∧ szFs (f.ks.drop i) a d = szFs f.ks 1 0) (fun ((i, a, d) : Nat × Int × Int) => f.ks.length - i) (0, 1, 0) ?_ ?_ ?_
 ·exact ⟨Nat.zero_le _, rfl⟩
 ·exact rn_ok [([0], [0])] [] [2, 3, 9, 10, 11] (trivial) (by kernel_rfl)
 ·rintro ⟨i, a, d⟩ hinv
  dsimp only at hinv ⊢
  obtain ⟨hx1, hx2⟩ := hinv
  refine at_B [2, 3, 9, 10, 11, 12] [] [] [(1000000, .any), (2, .i a), (3, .i d), (9, .tv (.sli 5 (f.ks.map encF))), (10, .i (((f.ks.map encF).length : Nat) : Int)), (11, .i ((i : Nat) : Int)), (12, .b (decide (((i : Nat) : Int) < (((f.ks.map encF).length : Nat) : Int))))] [([0], .row ((celF f).map .tv) false)] 1 (by kernel_rfl) ?_ ?_
  ·exact trivial
  refine at_seq ?_
  refine at_cond (b := (decide (((i : Nat) : Int) < (((f.ks.map encF).length : Nat) : Int)))) rfl rfl (fun hc12 => ?_) (fun hc12 => ?_)
  ·have q12 := hc12
   (try simp only [brs] at q12)
   refine at_skip ?_
   change AT _ _ _ _
   refine at_seq ?_
   refine at_block ?_
   refine at_B [2, 3, 5, 9, 10, 11] [.eq (.tv (.ptr (celF (f.ks.getD i Fm.z))))] [(0 ≤ ((i : Nat) : Int) ∧ ((i : Nat) : Int) < ((((f.ks.map encF) : List (List TV)).length : Nat) : Int)), (.tv (.ptr (rowAt (f.ks.map encF) ((i : Nat) : Int))) : AV) = .tv (.ptr (celF (f.ks.getD i Fm.z)))] [(1000000, .any), (2, .i a), (3, .i d), (5, .ptr [3, 8] 0), (9, .tv (.sli 5 (f.ks.map encF))), (10, .i (((f.ks.map encF).length : Nat) : Int)), (11, .i ((i : Nat) : Int))] [(b69_1 f i), ([0], .row ((celF f).map .tv) false)] 5 (by kernel_rfl) ?_ ?_
   ·exact ⟨by (try simp only [lns] at *); omega, congrArg (fun c => AV.tv (.ptr c)) (row_F f.ks ((i : Nat) : Int) (by (try simp only [brs, lns] at *); omega)), trivial⟩
   refine at_B [2, 3, 6, 7, 9, 10, 11] [.std, .ret (.tup [.i ((szF (f.ks.getD i Fm.z)).1), .i ((szF (f.ks.getD i Fm.z)).2)])] [PureCall Tryd.prog 69 [agF (f.ks.getD i Fm.z)] (.tup [.i ((szF (f.ks.getD i Fm.z)).1), .i ((szF (f.ks.getD i Fm.z)).2)])] [(1000000, .any), (2, .i a), (3, .i d), (6, .i ((szF (f.ks.getD i Fm.z)).1)), (7, .i ((szF (f.ks.getD i Fm.z)).2)), (9, .tv (.sli 5 (f.ks.map encF))), (10, .i (((f.ks.map encF).length : Nat) : Int)), (11, .i ((i : Nat) : Int))] [(b69_1 f i), ([0], .row ((celF f).map .tv) false)] 12 (by kernel_rfl) ?_ ?_
   ·exact ⟨(ih _ (getD_mem (by omega))), trivial⟩
   refine at_Bl [2, 3, 9, 10, 11] [] [] [(1000000, .any), (2, .i (wr (a + ((szF (f.ks.getD i Fm.z)).1)))), (3, .i (mx d ((szF (f.ks.getD i Fm.z)).2))), (9, .tv (.sli 5 (f.ks.map encF))), (10, .i (((f.ks.map encF).length : Nat) : Int)), (11, .i ((i : Nat) : Int))] [(b69_1 f i), ([0], .row ((celF f).map .tv) false)] 20 (by kernel_rfl) ?_ ?_
   ·exact trivial
   change AT _ _ _ _
   refine at_Bl [2, 3, 9, 10, 11] [.eq (.i ((i + 1 : Nat) : Int))] [(.i (wr (((i : Nat) : Int) + 1)) : AV) = .i ((i + 1 : Nat) : Int)] [(1000000, .any), (2, .i (wr (a + ((szF (f.ks.getD i Fm.z)).1)))), (3, .i (mx d ((szF (f.ks.getD i Fm.z)).2))), (9, .tv (.sli 5 (f.ks.map encF))), (10, .i (((f.ks.map encF).length : Nat) : Int)), (11, .i ((i + 1 : Nat) : Int))] [(b69_1 f i), ([0], .row ((celF f).map .tv) false)] 22 (by kernel_rfl) ?_ ?_
   ·exact ⟨succ_av i (by (try simp only [lns] at *); omega), trivial⟩
   refine ⟨rfl, (i + 1, wr (a + ((szF (f.ks.getD i Fm.z)).1)), mx d ((szF (f.ks.getD i Fm.z)).2)), ?_, ?_, ?_⟩
   ·(try dsimp only); omega
   ·(try dsimp only); exact ⟨by omega, by rw [← hx2, drop_get f.ks i Fm.z (by omega), szFs]⟩
   ·exact rn_ok [([0], [0])] [] [2, 3, 9, 10, 11] (trivial) (by kernel_rfl)
  ·have q12 := hc12
   (try simp only [brs] at q12)
   refine at_exit ?_
   change AT _ _ _ _
   refine at_B [2, 3] [] [] [(1000000, .any), (2, .i a), (3, .i (wr (d + 1)))] [([0], .row ((celF f).map .tv) false)] 14 (by kernel_rfl) ?_ ?_
   ·exact trivial
   refine at_ret ?_
   refine fin0 (.inr rfl) (.tup [.i a, .i (wr (d + 1))]) [([0], .row ((celF f).map .tv) false)] (.tup [.i a, .i (wr (d + 1))]) (H2 := [([0], .row ((celF f).map .tv) false)]) (by kernel_rfl) (by kernel_rfl) ?_
   refine Le.of_eq ?_
   rw [szF_eq, ← hx2, List.drop_of_length_le (by omega)]; rfl
theorem c67 (s : ByteArray)  : PureCall Tryd.prog 67 [.tv (.str s)] (.b (nameP s)) := by
 refine walk0 (fn := Tryd.f67) [.tmp 2] Tryd.func67 rfl (by kernel_rfl) rfl (by kernel_rfl) (by kernel_rfl) ?_
 change AT _ _ _ ⟨[(0, .tv (.str s))], [], [], 0⟩
 refine at_strlen 0 rfl (fun hs => ?_)
 refine at_B [0] [] [] [(1000000, .any), (0, .tv (.str s))] [] 1 (by kernel_rfl) ?_ ?_
 ·exact trivial
 refine at_seq ?_
 refine at_B [0, 7, 8] [] [] [(1000000, .any), (0, .tv (.str s)), (7, .i ((s.size : Nat) : Int)), (8, .i 0)] [] 4 (by kernel_rfl) ?_ ?_
 ·exact trivial
 refine at_block ?_
 refine at_loopR (X := Nat) 0 (fun (i : Nat) => [(1000000, .any), (0, .tv (.str s)), (7, .i ((s.size : Nat) : Int)), (8, .i ((i : Nat) : Int))]) (fun (i : Nat) => []) (fun (i : Nat) => i ≤ s.size ∧ ∀ j, j < i → badN s j = false) (fun (i : Nat) => s.size - i) 0 ?_ ?_ ?_
 ·exact ⟨Nat.zero_le _, fun j hj => absurd hj (Nat.not_lt_zero j)⟩
 ·exact rn_ok [] [] [0, 7, 8] (trivial) (by kernel_rfl)
 ·intro i hinv
  obtain ⟨hx1, hx2⟩ := hinv
  refine at_B [0, 7, 8, 9] [] [] [(1000000, .any), (0, .tv (.str s)), (7, .i ((s.size : Nat) : Int)), (8, .i ((i : Nat) : Int)), (9, .b (decide (((i : Nat) : Int) < ((s.size : Nat) : Int))))] [] 1 (by kernel_rfl) ?_ ?_
  ·exact trivial
  refine at_seq ?_
  refine at_cond (b := (decide (((i : Nat) : Int) < ((s.size : Nat) : Int)))) rfl rfl (fun hc9 => ?_) (fun hc9 => ?_)
  ·have q9 := hc9
   (try simp only [brs] at q9)
   refine at_skip ?_
   change AT _ _ _ _
   refine at_seq ?_
   refine at_block ?_
   refine at_B [0, 3, 7, 8] [] [] [(1000000, .any), (0, .tv (.str s)), (3, .i ((i : Nat) : Int)), (7, .i ((s.size : Nat) : Int)), (8, .i ((i : Nat) : Int))] [] 3 (by kernel_rfl) ?_ ?_
   ·exact trivial
   refine at_B [0, 3, 4, 7, 8] [] [(0 ≤ ((i : Nat) : Int) ∧ ((i : Nat) : Int) < ((s.size : Nat) : Int))] [(1000000, .any), (0, .tv (.str s)), (3, .i ((i : Nat) : Int)), (4, .tv (.int .u8 (sbyte s ((i : Nat) : Int)))), (7, .i ((s.size : Nat) : Int)), (8, .i ((i : Nat) : Int))] [] 7 (by kernel_rfl) ?_ ?_
   ·exact ⟨by (try simp only [lns] at *); omega, trivial⟩
   refine at_B [0, 3, 4, 5, 7, 8] [] [] [(1000000, .any), (0, .tv (.str s)), (3, .i ((i : Nat) : Int)), (4, .tv (.int .u8 (sbyte s ((i : Nat) : Int)))), (5, .b (((decide ((97 : Int) ≤ sbyte s ((i : Nat) : Int))) && (decide (sbyte s ((i : Nat) : Int) ≤ (122 : Int)))) || ((decide ((65 : Int) ≤ sbyte s ((i : Nat) : Int))) && (decide (sbyte s ((i : Nat) : Int) ≤ (90 : Int)))))), (7, .i ((s.size : Nat) : Int)), (8, .i ((i : Nat) : Int))] [] 22 (by kernel_rfl) ?_ ?_
   ·exact trivial
   refine at_B [0, 7, 8, 45] [] [] [(1000000, .any), (0, .tv (.str s)), (7, .i ((s.size : Nat) : Int)), (8, .i ((i : Nat) : Int)), (45, .b ((!(((decide ((97 : Int) ≤ sbyte s ((i : Nat) : Int))) && (decide (sbyte s ((i : Nat) : Int) ≤ (122 : Int)))) || ((decide ((65 : Int) ≤ sbyte s ((i : Nat) : Int))) && (decide (sbyte s ((i : Nat) : Int) ≤ (90 : Int)))))) && ((decide (((i : Nat) : Int) = (0 : Int))) || ((!decide (sbyte s ((i : Nat) : Int) = (95 : Int))) && ((decide (sbyte s ((i : Nat) : Int) < (48 : Int))) || (decide ((57 : Int) < sbyte s ((i : Nat) : Int))))))))] [] 40 (by kernel_rfl) ?_ ?_
   ·exact trivial
   refine at_cond (b := ((!(((decide ((97 : Int) ≤ sbyte s ((i : Nat) : Int))) && (decide (sbyte s ((i : Nat) : Int) ≤ (122 : Int)))) || ((decide ((65 : Int) ≤ sbyte s ((i : Nat) : Int))) && (decide (sbyte s ((i : Nat) : Int) ≤ (90 : Int)))))) && ((decide (((i : Nat) : Int) = (0 : Int))) || ((!decide (sbyte s ((i : Nat) : Int) = (95 : Int))) && ((decide (sbyte s ((i : Nat) : Int) < (48 : Int))) || (decide ((57 : Int) < sbyte s ((i : Nat) : Int)))))))) rfl rfl (fun hc45 => ?_) (fun hc45 => ?_)
   ·have q45 := hc45
    (try simp only [brs] at q45)
    refine at_B [2] [] [] [(1000000, .any), (2, .b false)] [] 41 (by kernel_rfl) ?_ ?_
    ·exact trivial
    refine at_ret ?_
    refine fin0 (.inr rfl) (.b false) [] (.b false) (H2 := []) (by kernel_rfl) (by kernel_rfl) ?_
    refine Le.of_eq ?_
    rw [nameP_no (i := i) (by omega) hc45]
   ·have q45 := hc45
    (try simp only [brs] at q45)
    refine at_skip ?_
    change AT _ _ _ _
    refine at_Bl [0, 7, 8] [.eq (.i ((i + 1 : Nat) : Int))] [(.i (wr (((i : Nat) : Int) + 1)) : AV) = .i ((i + 1 : Nat) : Int)] [(1000000, .any), (0, .tv (.str s)), (7, .i ((s.size : Nat) : Int)), (8, .i ((i + 1 : Nat) : Int))] [] 42 (by kernel_rfl) ?_ ?_
    ·exact ⟨succ_av i (by (try simp only [lns] at *); omega), trivial⟩
    refine ⟨rfl, (i + 1), ?_, ?_, ?_⟩
    ·(try dsimp only); omega
    ·exact ⟨by omega, fun j hj => (if e : j = i then e ▸ hc45 else hx2 j (by omega))⟩
    ·exact rn_ok [] [] [0, 7, 8] (trivial) (by kernel_rfl)
  ·have q9 := hc9
   (try simp only [brs] at q9)
   refine at_exit ?_
   change AT _ _ _ _
   refine at_B [2] [] [] [(1000000, .any), (2, .b ((decide ((0 : Int) < ((s.size : Nat) : Int))) && (decide (((s.size : Nat) : Int) ≤ (24 : Int)))))] [] 14 (by kernel_rfl) ?_ ?_
   ·exact trivial
   refine at_ret ?_
   refine fin0 (.inr rfl) (.b ((decide ((0 : Int) < ((s.size : Nat) : Int))) && (decide (((s.size : Nat) : Int) ≤ (24 : Int))))) [] (.b ((decide ((0 : Int) < ((s.size : Nat) : Int))) && (decide (((s.size : Nat) : Int) ≤ (24 : Int))))) (H2 := []) (by kernel_rfl) (by kernel_rfl) ?_
   refine Le.of_eq ?_
   rw [nameP_yes (n := i) (by omega) hx2]
theorem c87 (n : Int)  : PureCall Tryd.prog 87 [.i n] (.b (badDay n)) := by
 refine walk0 (fn := Tryd.f87) [.tmp 2] Tryd.func87 rfl (by kernel_rfl) rfl (by kernel_rfl) (by kernel_rfl) ?_
 change AT _ _ _ ⟨[(0, .i n)], [], [], 0⟩
 refine at_B [0] [] [] [(1000000, .any), (0, .i n)] [] 1 (by kernel_rfl) ?_ ?_
 ·exact trivial
 refine at_B [2] [] [] [(1000000, .any), (2, .b ((decide (n < (0 : Int))) || (decide ((1000000 : Int) < n))))] [] 8 (by kernel_rfl) ?_ ?_
 ·exact trivial
 refine at_ret ?_
 refine fin0 (.inr rfl) (.b ((decide (n < (0 : Int))) || (decide ((1000000 : Int) < n)))) [] (.b ((decide (n < (0 : Int))) || (decide ((1000000 : Int) < n)))) (H2 := []) (by kernel_rfl) (by kernel_rfl) ?_
 refine Le.of_eq ?_
 first | rfl | (simp only [*])
theorem c94 (l : (List Int))  : PureCall Tryd.prog 94 [.tv (.sli 1 (l.map encI)), .tv (.fn 87)] (.i (idxF badDay l 0)) := by
 refine walk0 (fn := Tryd.f94) [.tmp 4] Tryd.func94 rfl (by kernel_rfl) rfl (by kernel_rfl) (by kernel_rfl) ?_
 change AT _ _ _ ⟨[(0, .tv (.sli 1 (l.map encI))), (1, .tv (.fn 87))], [], [], 0⟩
 refine at_len 0 rfl (fun hlen => ?_)
 refine at_B [0, 1] [] [] [(1000000, .any), (0, .tv (.sli 1 (l.map encI))), (1, .tv (.fn 87))] [] 1 (by kernel_rfl) ?_ ?_
 ·exact trivial
 refine at_seq ?_
 refine at_B [0, 1, 7, 8] [] [] [(1000000, .any), (0, .tv (.sli 1 (l.map encI))), (1, .tv (.fn 87)), (7, .i (((l.map encI).length : Nat) : Int)), (8, .i 0)] [] 4 (by kernel_rfl) ?_ ?_
 ·exact trivial
 refine at_block ?_
 refine at_loopR (X := Nat) 0 (fun (i : Nat) => [(1000000, .any), (0, .tv (.sli 1 (l.map encI))), (1, .tv (.fn 87)), (7, .i (((l.map encI).length : Nat) : Int)), (8, .i ((i : Nat) : Int))]) (fun (i : Nat) => []) (fun (i : Nat) => i ≤ l.length ∧ idxF badDay (l.drop i) i = idxF badDay l 0) (fun (i : Nat) => l.length - i) 0 ?_ ?_ ?_
 ·exact ⟨Nat.zero_le _, rfl⟩
 ·exact rn_ok [] [] [0, 1, 7, 8] (trivial) (by kernel_rfl)
 ·intro i hinv
  obtain ⟨hx1, hx2⟩ := hinv
  refine at_B [0, 1, 7, 8, 9] [] [] [(1000000, .any), (0, .tv (.sli 1 (l.map encI))), (1, .tv (.fn 87)), (7, .i (((l.map encI).length : Nat) : Int)), (8, .i ((i : Nat) : Int)), (9, .b (decide (((i : Nat) : Int) < (((l.map encI).length : Nat) : Int))))] [] 1 (by kernel_rfl) ?_ ?_
  ·exact trivial
  refine at_seq ?_
  refine at_cond (b := (decide (((i : Nat) : Int) < (((l.map encI).length : Nat) : Int)))) rfl rfl (fun hc9 => ?_) (fun hc9 => ?_)
  ·have q9 := hc9
   (try simp only [brs] at q9)
   refine at_skip ?_
   change AT _ _ _ _
   refine at_seq ?_
   refine at_block ?_
   refine at_B [0, 1, 5, 7, 8] [] [] [(1000000, .any), (0, .tv (.sli 1 (l.map encI))), (1, .tv (.fn 87)), (5, .i ((i : Nat) : Int)), (7, .i (((l.map encI).length : Nat) : Int)), (8, .i ((i : Nat) : Int))] [] 3 (by kernel_rfl) ?_ ?_
   ·exact trivial
   refine at_B [0, 1, 5, 7, 8, 16] [.std, .std, .std, .eq (.tv (.ptr [.int .i64 (l.getD i 0)])), .std, .ret (.b (badDay (l.getD i 0)))] [(0 ≤ ((i : Nat) : Int) ∧ ((i : Nat) : Int) < ((((l.map encI) : List (List TV)).length : Nat) : Int)), (.tv (.ptr (rowAt (l.map encI) ((i : Nat) : Int))) : AV) = .tv (.ptr [.int .i64 (l.getD i 0)]), PureCall Tryd.prog 87 [.i (l.getD i 0)] (.b (badDay (l.getD i 0)))] [(1000000, .any), (0, .tv (.sli 1 (l.map encI))), (1, .tv (.fn 87)), (5, .i ((i : Nat) : Int)), (7, .i (((l.map encI).length : Nat) : Int)), (8, .i ((i : Nat) : Int)), (16, .b (badDay (l.getD i 0)))] [] 9 (by kernel_rfl) ?_ ?_
   ·exact ⟨by (try simp only [lns] at *); omega, congrArg (fun c => AV.tv (.ptr c)) (row_enc encI l ((i : Nat) : Int) 0 (by (try simp only [brs, lns] at *); omega)), (c87 (l.getD i 0)), trivial⟩
   refine at_cond (b := (badDay (l.getD i 0))) rfl rfl (fun hc16 => ?_) (fun hc16 => ?_)
   ·have q16 := hc16
    (try simp only [brs] at q16)
    refine at_B [4] [] [] [(1000000, .any), (4, .i ((i : Nat) : Int))] [] 11 (by kernel_rfl) ?_ ?_
    ·exact trivial
    refine at_ret ?_
    refine fin0 (.inr rfl) (.i ((i : Nat) : Int)) [] (.i ((i : Nat) : Int)) (H2 := []) (by kernel_rfl) (by kernel_rfl) ?_
    refine Le.of_eq ?_
    rw [idx_stop (i := i) 0 (by omega) hx2 hc16]
   ·have q16 := hc16
    (try simp only [brs] at q16)
    refine at_skip ?_
    change AT _ _ _ _
    refine at_Bl [0, 1, 7, 8] [.eq (.i ((i + 1 : Nat) : Int))] [(.i (wr (((i : Nat) : Int) + 1)) : AV) = .i ((i + 1 : Nat) : Int)] [(1000000, .any), (0, .tv (.sli 1 (l.map encI))), (1, .tv (.fn 87)), (7, .i (((l.map encI).length : Nat) : Int)), (8, .i ((i + 1 : Nat) : Int))] [] 11 (by kernel_rfl) ?_ ?_
    ·exact ⟨succ_av i (by (try simp only [lns] at *); omega), trivial⟩
    refine ⟨rfl, (i + 1), ?_, ?_, ?_⟩
    ·(try dsimp only); omega
    ·exact ⟨by omega, idx_step 0 (by omega) hx2 hc16⟩
    ·exact rn_ok [] [] [0, 1, 7, 8] (trivial) (by kernel_rfl)
  ·have q9 := hc9
   (try simp only [brs] at q9)
   refine at_exit ?_
   change AT _ _ _ _
   refine at_B [4] [] [] [(1000000, .any), (4, .i (-1))] [] 6 (by kernel_rfl) ?_ ?_
   ·exact trivial
   refine at_ret ?_
   refine fin0 (.inr rfl) (.i (-1)) [] (.i (-1)) (H2 := []) (by kernel_rfl) (by kernel_rfl) ?_
   refine Le.of_eq ?_
   rw [idx_end (i := i) (by omega) hx2]
theorem c86 (l : (List Int))  : PureCall Tryd.prog 86 [.tv (.sli 1 (l.map encI)), .tv (.fn 87)] (.b (List.any l badDay)) := by
 refine walk0 (fn := Tryd.f86) [.tmp 4] Tryd.func86 rfl (by kernel_rfl) rfl (by kernel_rfl) (by kernel_rfl) ?_
 change AT _ _ _ ⟨[(0, .tv (.sli 1 (l.map encI))), (1, .tv (.fn 87))], [], [], 0⟩
 refine at_B [0, 1] [] [] [(1000000, .any), (0, .tv (.sli 1 (l.map encI))), (1, .tv (.fn 87))] [] 1 (by kernel_rfl) ?_ ?_
 ·exact trivial
 refine at_B [4] [.std, .std, .ret (.i (idxF badDay l 0))] [PureCall Tryd.prog 94 [.tv (.sli 1 (l.map encI)), .tv (.fn 87)] (.i (idxF badDay l 0))] [(1000000, .any), (4, .b (decide ((0 : Int) ≤ (idxF badDay l 0))))] [] 6 (by kernel_rfl) ?_ ?_
 ·exact ⟨(c94 l), trivial⟩
 refine at_ret ?_
 refine fin0 (.inr rfl) (.b (decide ((0 : Int) ≤ (idxF badDay l 0)))) [] (.b (decide ((0 : Int) ≤ (idxF badDay l 0)))) (H2 := []) (by kernel_rfl) (by kernel_rfl) ?_
 refine Le.of_eq ?_
 rw [← idx_any _ _ 0]
theorem c68 (l : (List Int))  : PureCall Tryd.prog 68 [.tv (.sli 1 (l.map encI))] (.b (daysP l)) := by
 refine walk0 (fn := Tryd.f68) [.tmp 2] Tryd.func68 rfl (by kernel_rfl) rfl (by kernel_rfl) (by kernel_rfl) ?_
 change AT _ _ _ ⟨[(0, .tv (.sli 1 (l.map encI)))], [], [], 0⟩
 refine at_B [0] [] [] [(1000000, .any), (0, .tv (.sli 1 (l.map encI)))] [] 1 (by kernel_rfl) ?_ ?_
 ·exact trivial
 refine at_B [2] [.std, .ret (.b (List.any l badDay))] [PureCall Tryd.prog 86 [.tv (.sli 1 (l.map encI)), .tv (.fn 87)] (.b (List.any l badDay))] [(1000000, .any), (2, .b (!(List.any l badDay)))] [] 5 (by kernel_rfl) ?_ ?_
 ·exact ⟨(c86 l), trivial⟩
 refine at_ret ?_
 refine fin0 (.inr rfl) (.b (!(List.any l badDay))) [] (.b (!(List.any l badDay))) (H2 := []) (by kernel_rfl) (by kernel_rfl) ?_
 refine Le.of_eq ?_
 first | rfl | (simp only [*])
def validP (r : Ru) : Bool := bif (((!(nameP r.id)) || (!(nameP r.tg))) || (!(daysP ([r.a, r.b, r.kn])))) then (false) else (bif (decide (r.kd = (6 : Int))) then ((nameP r.lf)) else (bif (decide (r.kd = (4 : Int))) then (((decide (r.lf = ⟨#[]⟩)) && (decide (r.a < r.b)))) else (bif (decide (r.kd = (5 : Int))) then ((((decide (r.lf = ⟨#[]⟩)) && (decide ((szF r.f).1 ≤ (200 : Int)))) && (decide ((szF r.f).2 ≤ (20 : Int))))) else (bif (bif (decide (r.kd = (1 : Int))) then (decide (r.kd = (1 : Int))) else (bif (decide (r.kd = (2 : Int))) then (decide (r.kd = (2 : Int))) else (decide (r.kd = (3 : Int))))) then ((decide (r.lf = ⟨#[]⟩))) else (false)))))
theorem c41 (r : Ru)  : PureCall Tryd.prog 41 [agR r] (.b (validP r)) := by
 refine walk0 (fn := Tryd.f41) [.tmp 2] Tryd.func41 rfl (by kernel_rfl) rfl (by kernel_rfl) (by kernel_rfl) ?_
 change AT _ _ _ ⟨[(0, agR r)], [], [], 0⟩
 refine at_B [1] [] [] [(1000000, .any), (1, .ptr [0] 0)] [([0], .row ((celR r).map .tv) false)] 2 (by kernel_rfl) ?_ ?_
 ·exact trivial
 refine at_seq ?_
 refine at_B [1, 25] [.std, .std, .ret (.b (nameP r.id)), .std, .std, .std, .std, .ret (.b (nameP r.tg)), .std, .std, .std, .std, .std, .std, .std, .std, .std, .eq (.tv (.sli 1 (([r.a, r.b, r.kn] : List _).map encI))), .ret (.b (daysP ([r.a, r.b, r.kn])))] [PureCall Tryd.prog 67 [.tv (.str r.id)] (.b (nameP r.id)), ((!(nameP r.id)) = false) → PureCall Tryd.prog 67 [.tv (.str r.tg)] (.b (nameP r.tg)), (((!(nameP r.id)) || (!(nameP r.tg))) = false) → (.tv (.sli 1 [[.int .i64 r.a], [.int .i64 r.b], [.int .i64 r.kn]]) : AV) = .tv (.sli 1 (([r.a, r.b, r.kn] : List _).map encI)), (((!(nameP r.id)) || (!(nameP r.tg))) = false) → PureCall Tryd.prog 68 [.tv (.sli 1 (([r.a, r.b, r.kn] : List _).map encI))] (.b (daysP ([r.a, r.b, r.kn])))] [(1000000, .any), (1, .ptr [0] 0), (25, .b (((!(nameP r.id)) || (!(nameP r.tg))) || (!(daysP ([r.a, r.b, r.kn])))))] [([0], .row ((celR r).map .tv) false)] 23 (by kernel_rfl) ?_ ?_
 ·exact ⟨(c67 r.id), fun hg0 => (c67 r.tg), fun hg0 => rfl, fun hg0 => (c68 [r.a, r.b, r.kn]), trivial⟩
 refine at_cond (b := (((!(nameP r.id)) || (!(nameP r.tg))) || (!(daysP ([r.a, r.b, r.kn]))))) rfl rfl (fun hc25 => ?_) (fun hc25 => ?_)
 ·have q25 := hc25
  (try simp only [brs] at q25)
  refine at_B [2] [] [] [(1000000, .any), (2, .b false)] [([0], .row ((celR r).map .tv) false)] 24 (by kernel_rfl) ?_ ?_
  ·exact trivial
  refine at_ret ?_
  refine fin0 (.inr rfl) (.b false) [([0], .row ((celR r).map .tv) false)] (.b false) (H2 := [([0], .row ((celR r).map .tv) false)]) (by kernel_rfl) (by kernel_rfl) ?_
  refine Le.of_eq ?_
  first | rfl | (simp only [validP, hc25, cond_true, cond_false]; done) | (simp only [validP, hc25, cond_true, cond_false]; rfl)
 ·have q25 := hc25
  (try simp only [brs] at q25)
  refine at_skip ?_
  change AT _ _ _ _
  refine at_seq ?_
  refine at_B [1, 27] [] [] [(1000000, .any), (1, .ptr [0] 0), (27, .i r.kd)] [([0], .row ((celR r).map .tv) false)] 25 (by kernel_rfl) ?_ ?_
  ·exact trivial
  refine at_block ?_
  refine at_B [1, 27, 28] [] [] [(1000000, .any), (1, .ptr [0] 0), (27, .i r.kd), (28, .b (decide (r.kd = (6 : Int))))] [([0], .row ((celR r).map .tv) false)] 27 (by kernel_rfl) ?_ ?_
  ·exact trivial
  refine at_cond (b := (decide (r.kd = (6 : Int)))) rfl rfl (fun hc28 => ?_) (fun hc28 => ?_)
  ·have q28 := hc28
   (try simp only [brs] at q28)
   refine at_B [2] [.std, .std, .ret (.b (nameP r.lf))] [PureCall Tryd.prog 67 [.tv (.str r.lf)] (.b (nameP r.lf))] [(1000000, .any), (2, .b (nameP r.lf))] [([0], .row ((celR r).map .tv) false)] 31 (by kernel_rfl) ?_ ?_
   ·exact ⟨(c67 r.lf), trivial⟩
   refine at_ret ?_
   refine fin0 (.inr rfl) (.b (nameP r.lf)) [([0], .row ((celR r).map .tv) false)] (.b (nameP r.lf)) (H2 := [([0], .row ((celR r).map .tv) false)]) (by kernel_rfl) (by kernel_rfl) ?_
   refine Le.of_eq ?_
   first | rfl | (simp only [validP, hc25, hc28, cond_true, cond_false]; done) | (simp only [validP, hc25, hc28, cond_true, cond_false]; rfl)
  ·have q28 := hc28
   (try simp only [brs] at q28)
   refine at_B [1, 27, 33] [] [] [(1000000, .any), (1, .ptr [0] 0), (27, .i r.kd), (33, .b (decide (r.kd = (4 : Int))))] [([0], .row ((celR r).map .tv) false)] 29 (by kernel_rfl) ?_ ?_
   ·exact trivial
   refine at_cond (b := (decide (r.kd = (4 : Int)))) rfl rfl (fun hc33 => ?_) (fun hc33 => ?_)
   ·have q33 := hc33
    (try simp only [brs] at q33)
    refine at_B [2] [] [] [(1000000, .any), (2, .b ((decide (r.lf = ⟨#[]⟩)) && (decide (r.a < r.b))))] [([0], .row ((celR r).map .tv) false)] 40 (by kernel_rfl) ?_ ?_
    ·exact trivial
    refine at_ret ?_
    refine fin0 (.inr rfl) (.b ((decide (r.lf = ⟨#[]⟩)) && (decide (r.a < r.b)))) [([0], .row ((celR r).map .tv) false)] (.b ((decide (r.lf = ⟨#[]⟩)) && (decide (r.a < r.b)))) (H2 := [([0], .row ((celR r).map .tv) false)]) (by kernel_rfl) (by kernel_rfl) ?_
    refine Le.of_eq ?_
    first | rfl | (simp only [validP, hc25, hc28, hc33, cond_true, cond_false]; done) | (simp only [validP, hc25, hc28, hc33, cond_true, cond_false]; rfl)
   ·have q33 := hc33
    (try simp only [brs] at q33)
    refine at_B [1, 27, 45] [] [] [(1000000, .any), (1, .ptr [0] 0), (27, .i r.kd), (45, .b (decide (r.kd = (5 : Int))))] [([0], .row ((celR r).map .tv) false)] 31 (by kernel_rfl) ?_ ?_
    ·exact trivial
    refine at_cond (b := (decide (r.kd = (5 : Int)))) rfl rfl (fun hc45 => ?_) (fun hc45 => ?_)
    ·have q45 := hc45
     (try simp only [brs] at q45)
     refine at_B [1, 3, 4] [.std, .std, .ret (.tup [.i ((szF r.f).1), .i ((szF r.f).2)])] [PureCall Tryd.prog 69 [agF r.f] (.tup [.i ((szF r.f).1), .i ((szF r.f).2)])] [(1000000, .any), (1, .ptr [0] 0), (3, .i ((szF r.f).1)), (4, .i ((szF r.f).2))] [([0], .row ((celR r).map .tv) false)] 39 (by kernel_rfl) ?_ ?_
     ·exact ⟨(c69 r.f), trivial⟩
     refine at_B [2] [] [] [(1000000, .any), (2, .b (((decide (r.lf = ⟨#[]⟩)) && (decide ((szF r.f).1 ≤ (200 : Int)))) && (decide ((szF r.f).2 ≤ (20 : Int)))))] [([0], .row ((celR r).map .tv) false)] 51 (by kernel_rfl) ?_ ?_
     ·exact trivial
     refine at_ret ?_
     refine fin0 (.inr rfl) (.b (((decide (r.lf = ⟨#[]⟩)) && (decide ((szF r.f).1 ≤ (200 : Int)))) && (decide ((szF r.f).2 ≤ (20 : Int))))) [([0], .row ((celR r).map .tv) false)] (.b (((decide (r.lf = ⟨#[]⟩)) && (decide ((szF r.f).1 ≤ (200 : Int)))) && (decide ((szF r.f).2 ≤ (20 : Int))))) (H2 := [([0], .row ((celR r).map .tv) false)]) (by kernel_rfl) (by kernel_rfl) ?_
     refine Le.of_eq ?_
     first | rfl | (simp only [validP, hc25, hc28, hc33, hc45, cond_true, cond_false]; done) | (simp only [validP, hc25, hc28, hc33, hc45, cond_true, cond_false]; rfl)
    ·have q45 := hc45
     (try simp only [brs] at q45)
     refine at_seq ?_
     refine at_B [1, 27, 64] [] [] [(1000000, .any), (1, .ptr [0] 0), (27, .i r.kd), (64, .b (decide (r.kd = (1 : Int))))] [([0], .row ((celR r).map .tv) false)] 33 (by kernel_rfl) ?_ ?_
     ·exact trivial
     refine at_mergel (p := []) [(1000000, .any), (1, .ptr [0] 0), (64, .b (bif (decide (r.kd = (1 : Int))) then (decide (r.kd = (1 : Int))) else (bif (decide (r.kd = (2 : Int))) then (decide (r.kd = (2 : Int))) else (decide (r.kd = (3 : Int))))))] [([0], .row ((celR r).map .tv) false)] 37 ?_ ?_
     ·refine at_cond (b := (decide (r.kd = (1 : Int)))) rfl rfl (fun hc64 => ?_) (fun hc64 => ?_)
      ·skip
       refine at_skip ?_
       exact gh_merge [1, 64] [[0]] (Eq.trans (b := [(1000000, .any), (1, .ptr [0] 0), (64, .b (decide (r.kd = (1 : Int))))]) (by kernel_rfl) (by simp only [hc64, cond_true, cond_false]; try rfl)) (by kernel_rfl) (by kernel_rfl)
      ·skip
       refine at_B [1, 27, 64] [] [] [(1000000, .any), (1, .ptr [0] 0), (27, .i r.kd), (64, .b (decide (r.kd = (2 : Int))))] [([0], .row ((celR r).map .tv) false)] 35 (by kernel_rfl) ?_ ?_
       ·exact trivial
       refine at_mergel (p := []) [(1000000, .any), (1, .ptr [0] 0), (64, .b (bif (decide (r.kd = (2 : Int))) then (decide (r.kd = (2 : Int))) else (decide (r.kd = (3 : Int)))))] [([0], .row ((celR r).map .tv) false)] 37 ?_ ?_
       ·refine at_cond (b := (decide (r.kd = (2 : Int)))) rfl rfl (fun hc64 => ?_) (fun hc64 => ?_)
        ·skip
         refine at_skip ?_
         exact gh_merge [1, 64] [[0]] (Eq.trans (b := [(1000000, .any), (1, .ptr [0] 0), (64, .b (decide (r.kd = (2 : Int))))]) (by kernel_rfl) (by simp only [hc64, cond_true, cond_false]; try rfl)) (by kernel_rfl) (by kernel_rfl)
        ·skip
         refine at_Bl [1, 64] [] [] [(1000000, .any), (1, .ptr [0] 0), (64, .b (decide (r.kd = (3 : Int))))] [([0], .row ((celR r).map .tv) false)] 37 (by kernel_rfl) ?_ ?_
         ·exact trivial
         exact gh_merge [1, 64] [[0]] (Eq.trans (b := [(1000000, .any), (1, .ptr [0] 0), (64, .b (decide (r.kd = (3 : Int))))]) (by kernel_rfl) (by simp only [hc64, cond_true, cond_false]; try rfl)) (by kernel_rfl) (by kernel_rfl)
       exact gh_merge [1, 64] [[0]] (Eq.trans (b := [(1000000, .any), (1, .ptr [0] 0), (64, .b (bif (decide (r.kd = (2 : Int))) then (decide (r.kd = (2 : Int))) else (decide (r.kd = (3 : Int)))))]) (by kernel_rfl) (by simp only [hc64, cond_true, cond_false]; try rfl)) (by kernel_rfl) (by kernel_rfl)
     change AT _ _ _ _
     refine at_cond (b := (bif (decide (r.kd = (1 : Int))) then (decide (r.kd = (1 : Int))) else (bif (decide (r.kd = (2 : Int))) then (decide (r.kd = (2 : Int))) else (decide (r.kd = (3 : Int)))))) rfl rfl (fun hc64 => ?_) (fun hc64 => ?_)
     ·have q64 := hc64
      (try simp only [brs] at q64)
      refine at_B [2] [] [] [(1000000, .any), (2, .b (decide (r.lf = ⟨#[]⟩)))] [([0], .row ((celR r).map .tv) false)] 41 (by kernel_rfl) ?_ ?_
      ·exact trivial
      refine at_ret ?_
      refine fin0 (.inr rfl) (.b (decide (r.lf = ⟨#[]⟩))) [([0], .row ((celR r).map .tv) false)] (.b (decide (r.lf = ⟨#[]⟩))) (H2 := [([0], .row ((celR r).map .tv) false)]) (by kernel_rfl) (by kernel_rfl) ?_
      refine Le.of_eq ?_
      first | rfl | (simp only [validP, hc25, hc28, hc33, hc45, hc64, cond_true, cond_false]; done) | (simp only [validP, hc25, hc28, hc33, hc45, hc64, cond_true, cond_false]; rfl)
     ·have q64 := hc64
      (try simp only [brs] at q64)
      refine at_skip ?_
      change AT _ _ _ _
      refine at_B [2] [] [] [(1000000, .any), (2, .b false)] [([0], .row ((celR r).map .tv) false)] 38 (by kernel_rfl) ?_ ?_
      ·exact trivial
      refine at_ret ?_
      refine fin0 (.inr rfl) (.b false) [([0], .row ((celR r).map .tv) false)] (.b false) (H2 := [([0], .row ((celR r).map .tv) false)]) (by kernel_rfl) (by kernel_rfl) ?_
      refine Le.of_eq ?_
      first | rfl | (simp only [validP, hc25, hc28, hc33, hc45, hc64, cond_true, cond_false]; done) | (simp only [validP, hc25, hc28, hc33, hc45, hc64, cond_true, cond_false]; rfl)
def notValid (r : Ru) : Bool := !validP r
theorem c83 (r : Ru)  : PureCall Tryd.prog 83 [agR r] (.b (notValid r)) := by
 refine walk0 (fn := Tryd.f83) [.tmp 2] Tryd.func83 rfl (by kernel_rfl) rfl (by kernel_rfl) (by kernel_rfl) ?_
 change AT _ _ _ ⟨[(0, agR r)], [], [], 0⟩
 refine at_B [1] [] [] [(1000000, .any), (1, .ptr [0] 0)] [([0], .row ((celR r).map .tv) false)] 2 (by kernel_rfl) ?_ ?_
 ·exact trivial
 refine at_B [2] [.std, .ret (.b (validP r))] [PureCall Tryd.prog 41 [agR r] (.b (validP r))] [(1000000, .any), (2, .b (!(validP r)))] [([0], .row ((celR r).map .tv) false)] 6 (by kernel_rfl) ?_ ?_
 ·exact ⟨(c41 r), trivial⟩
 refine at_ret ?_
 refine fin0 (.inr rfl) (.b (!(validP r))) [([0], .row ((celR r).map .tv) false)] (.b (!(validP r))) (H2 := [([0], .row ((celR r).map .tv) false)]) (by kernel_rfl) (by kernel_rfl) ?_
 refine Le.of_eq ?_
 first | rfl | (simp only [*])
theorem c91 (l : (List Ru))  : PureCall Tryd.prog 91 [.tv (.sli 13 (l.map celR)), .tv (.fn 83)] (.i (idxF notValid l 0)) := by
 refine walk0 (fn := Tryd.f91) [.tmp 4] Tryd.func91 rfl (by kernel_rfl) rfl (by kernel_rfl) (by kernel_rfl) ?_
 change AT _ _ _ ⟨[(0, .tv (.sli 13 (l.map celR))), (1, .tv (.fn 83))], [], [], 0⟩
 refine at_len 0 rfl (fun hlen => ?_)
 refine at_B [0, 1] [] [] [(1000000, .any), (0, .tv (.sli 13 (l.map celR))), (1, .tv (.fn 83))] [] 1 (by kernel_rfl) ?_ ?_
 ·exact trivial
 refine at_seq ?_
 refine at_B [0, 1, 7, 8] [] [] [(1000000, .any), (0, .tv (.sli 13 (l.map celR))), (1, .tv (.fn 83)), (7, .i (((l.map celR).length : Nat) : Int)), (8, .i 0)] [] 4 (by kernel_rfl) ?_ ?_
 ·exact trivial
 refine at_block ?_
 refine at_loopR (X := Nat) 0 (fun (i : Nat) => [(1000000, .any), (0, .tv (.sli 13 (l.map celR))), (1, .tv (.fn 83)), (7, .i (((l.map celR).length : Nat) : Int)), (8, .i ((i : Nat) : Int))]) (fun (i : Nat) => []) (fun (i : Nat) => i ≤ l.length ∧ idxF notValid (l.drop i) i = idxF notValid l 0) (fun (i : Nat) => l.length - i) 0 ?_ ?_ ?_
 ·exact ⟨Nat.zero_le _, rfl⟩
 ·exact rn_ok [] [] [0, 1, 7, 8] (trivial) (by kernel_rfl)
 ·intro i hinv
  obtain ⟨hx1, hx2⟩ := hinv
  refine at_B [0, 1, 7, 8, 9] [] [] [(1000000, .any), (0, .tv (.sli 13 (l.map celR))), (1, .tv (.fn 83)), (7, .i (((l.map celR).length : Nat) : Int)), (8, .i ((i : Nat) : Int)), (9, .b (decide (((i : Nat) : Int) < (((l.map celR).length : Nat) : Int))))] [] 1 (by kernel_rfl) ?_ ?_
  ·exact trivial
  refine at_seq ?_
  refine at_cond (b := (decide (((i : Nat) : Int) < (((l.map celR).length : Nat) : Int)))) rfl rfl (fun hc9 => ?_) (fun hc9 => ?_)
  ·have q9 := hc9
   (try simp only [brs] at q9)
   refine at_skip ?_
   change AT _ _ _ _
   refine at_seq ?_
   refine at_block ?_
   refine at_B [0, 1, 5, 7, 8] [] [] [(1000000, .any), (0, .tv (.sli 13 (l.map celR))), (1, .tv (.fn 83)), (5, .i ((i : Nat) : Int)), (7, .i (((l.map celR).length : Nat) : Int)), (8, .i ((i : Nat) : Int))] [] 3 (by kernel_rfl) ?_ ?_
   ·exact trivial
   refine at_B [0, 1, 5, 7, 8, 16] [.std, .std, .std, .eq (.tv (.ptr (celR (l.getD i Ru.z)))), .std, .ret (.b (notValid (l.getD i Ru.z)))] [(0 ≤ ((i : Nat) : Int) ∧ ((i : Nat) : Int) < ((((l.map celR) : List (List TV)).length : Nat) : Int)), (.tv (.ptr (rowAt (l.map celR) ((i : Nat) : Int))) : AV) = .tv (.ptr (celR (l.getD i Ru.z))), PureCall Tryd.prog 83 [agR (l.getD i Ru.z)] (.b (notValid (l.getD i Ru.z)))] [(1000000, .any), (0, .tv (.sli 13 (l.map celR))), (1, .tv (.fn 83)), (5, .i ((i : Nat) : Int)), (7, .i (((l.map celR).length : Nat) : Int)), (8, .i ((i : Nat) : Int)), (16, .b (notValid (l.getD i Ru.z)))] [] 9 (by kernel_rfl) ?_ ?_
   ·exact ⟨by (try simp only [lns] at *); omega, congrArg (fun c => AV.tv (.ptr c)) (row_R l ((i : Nat) : Int) (by (try simp only [brs, lns] at *); omega)), (c83 (l.getD i Ru.z)), trivial⟩
   refine at_cond (b := (notValid (l.getD i Ru.z))) rfl rfl (fun hc16 => ?_) (fun hc16 => ?_)
   ·have q16 := hc16
    (try simp only [brs] at q16)
    refine at_B [4] [] [] [(1000000, .any), (4, .i ((i : Nat) : Int))] [] 11 (by kernel_rfl) ?_ ?_
    ·exact trivial
    refine at_ret ?_
    refine fin0 (.inr rfl) (.i ((i : Nat) : Int)) [] (.i ((i : Nat) : Int)) (H2 := []) (by kernel_rfl) (by kernel_rfl) ?_
    refine Le.of_eq ?_
    rw [idx_stop (i := i) Ru.z (by omega) hx2 hc16]
   ·have q16 := hc16
    (try simp only [brs] at q16)
    refine at_skip ?_
    change AT _ _ _ _
    refine at_Bl [0, 1, 7, 8] [.eq (.i ((i + 1 : Nat) : Int))] [(.i (wr (((i : Nat) : Int) + 1)) : AV) = .i ((i + 1 : Nat) : Int)] [(1000000, .any), (0, .tv (.sli 13 (l.map celR))), (1, .tv (.fn 83)), (7, .i (((l.map celR).length : Nat) : Int)), (8, .i ((i + 1 : Nat) : Int))] [] 11 (by kernel_rfl) ?_ ?_
    ·exact ⟨succ_av i (by (try simp only [lns] at *); omega), trivial⟩
    refine ⟨rfl, (i + 1), ?_, ?_, ?_⟩
    ·(try dsimp only); omega
    ·exact ⟨by omega, idx_step Ru.z (by omega) hx2 hc16⟩
    ·exact rn_ok [] [] [0, 1, 7, 8] (trivial) (by kernel_rfl)
  ·have q9 := hc9
   (try simp only [brs] at q9)
   refine at_exit ?_
   change AT _ _ _ _
   refine at_B [4] [] [] [(1000000, .any), (4, .i (-1))] [] 6 (by kernel_rfl) ?_ ?_
   ·exact trivial
   refine at_ret ?_
   refine fin0 (.inr rfl) (.i (-1)) [] (.i (-1)) (H2 := []) (by kernel_rfl) (by kernel_rfl) ?_
   refine Le.of_eq ?_
   rw [idx_end (i := i) (by omega) hx2]
theorem c82 (l : (List Ru))  : PureCall Tryd.prog 82 [.tv (.sli 13 (l.map celR)), .tv (.fn 83)] (.b (List.any l notValid)) := by
 refine walk0 (fn := Tryd.f82) [.tmp 4] Tryd.func82 rfl (by kernel_rfl) rfl (by kernel_rfl) (by kernel_rfl) ?_
 change AT _ _ _ ⟨[(0, .tv (.sli 13 (l.map celR))), (1, .tv (.fn 83))], [], [], 0⟩
 refine at_B [0, 1] [] [] [(1000000, .any), (0, .tv (.sli 13 (l.map celR))), (1, .tv (.fn 83))] [] 1 (by kernel_rfl) ?_ ?_
 ·exact trivial
 refine at_B [4] [.std, .std, .ret (.i (idxF notValid l 0))] [PureCall Tryd.prog 91 [.tv (.sli 13 (l.map celR)), .tv (.fn 83)] (.i (idxF notValid l 0))] [(1000000, .any), (4, .b (decide ((0 : Int) ≤ (idxF notValid l 0))))] [] 6 (by kernel_rfl) ?_ ?_
 ·exact ⟨(c91 l), trivial⟩
 refine at_ret ?_
 refine fin0 (.inr rfl) (.b (decide ((0 : Int) ≤ (idxF notValid l 0)))) [] (.b (decide ((0 : Int) ≤ (idxF notValid l 0)))) (H2 := []) (by kernel_rfl) (by kernel_rfl) ?_
 refine Le.of_eq ?_
 rw [← idx_any _ _ 0]
end Go.Proofs.YtphmhelkojdlaaaDoor
namespace Go.Proofs.YtphmhelkojdlaaaDoor
open Go.RowKit
set_option linter.unusedSimpArgs false
set_option linter.unusedVariables false
def beforeS (s : Sn) (n : Int) : Sn := (Sn.mk s.a (bif ((decide (s.b = (-1))) || (decide (n < s.b))) then n else s.b) s.f)
def fromS (s : Sn) (n : Int) : Sn := (Sn.mk (mx s.a n) s.b s.f)
def emptyS (s : Sn) : Bool := (!decide (s.b = (-1 : Int))) && decide (s.b ≤ s.a)
def addS (l : List Sn) (s : Sn) : List Sn := bif emptyS s then l else l ++ [s]
def andF (f g : Fm) : Fm := Fm.mk 6 ⟨#[]⟩ 0 0 [f, g]
def readS (s : Sn) (r : Ru) : Sn := bif decide (s.f.op = 1) then Sn.mk (fromS s r.a).a (fromS s r.a).b r.f else Sn.mk (fromS s r.a).a (fromS s r.a).b (andF s.f r.f)
def stepAr (r : Ru) (o : List Sn) (s : Sn) : List Sn :=
 bif decide (r.kd = 1) || emptyS s then o
 else bif decide (r.kd = 2) then addS o (beforeS s r.a)
 else bif decide (r.kd = 3) then addS o (beforeS s r.b)
 else bif decide (r.kd = 4) then addS (addS o (beforeS s r.a)) (fromS s r.b)
 else bif decide (r.kd = 5) then addS (addS o (beforeS s r.a)) (readS s r)
 else addS o s
theorem stepAr_z (o : List Sn) (s : Sn) : stepAr Ru.z o s = bif emptyS s then o else addS o s := by
 simp only [stepAr, Ru.z]
 simp
def badD (r : Ru) : Bool := (!(decide (0 ≤ r.a) && decide (r.a ≤ 1000000))) || !(decide (0 ≤ r.b) && decide (r.b ≤ 1000000))
def applyB (l : List Sn) (r : Ru) : List Sn := l.foldl (stepAr (bif badD r then Ru.z else r)) []
end Go.Proofs.YtphmhelkojdlaaaDoor
namespace Go.Proofs.YtphmhelkojdlaaaDoor
open Go.RowKit
set_option linter.unusedSimpArgs false
set_option linter.unusedVariables false
def keepT (s : Sn) (fr to : Int) (rd : Fm) : Sn := Sn.mk (mx s.a fr) (bif (!decide (to = -1)) && (decide (s.b = -1) || decide (to < s.b)) then to else s.b) rd
def keepL (s : Sn) (fr : Int) (rd : Fm) : Sn := Sn.mk (mx s.a fr) s.b rd
def nonE (s : Sn) : Bool := decide (s.b = -1) || decide (s.a < s.b)
def putS (o : List Sn) (s : Sn) : List Sn := bif nonE s then o ++ [s] else o
theorem put_no {o : List Sn} {s : Sn} (h : nonE s = false) : o = putS o s := by unfold putS; rw [h]; rfl
theorem put_yes {o : List Sn} {s : Sn} (h : nonE s = true) : o ++ [s] = putS o s := by unfold putS; rw [h]; rfl
theorem put_2 {o o1 o2 : List Sn} {A B : Sn} (h1 : o1 = putS o A) (h2 : o2 = putS o1 B) : o2 = putS (putS o A) B := by subst h1; exact h2
def readP (s : Sn) (r : Ru) : Fm := Fm.mk (bif !decide (s.f.op = 1) then 6 else r.f.op) (bif !decide (s.f.op = 1) then ⟨#[]⟩ else r.f.nm) (bif !decide (s.f.op = 1) then 0 else r.f.cm) (bif !decide (s.f.op = 1) then 0 else r.f.n) (bif !decide (s.f.op = 1) then [s.f, r.f] else r.f.ks)
theorem readP_eq (s : Sn) (r : Ru) : readP s r = bif !decide (s.f.op = 1) then andF s.f r.f else r.f := by
 unfold readP andF
 cases (!decide (s.f.op = 1)) with
 | true => rfl
 | false => exact Fm.eta r.f
def stepP (r : Ru) (kind : Int) (o : List Sn) (s : Sn) : List Sn :=
 bif (!decide (s.b = -1)) && decide (s.b ≤ s.a) then o
 else bif decide (kind = 1) then o
 else bif decide (kind = 2) then putS o (keepT s s.a r.a s.f)
 else bif decide (kind = 3) then putS o (keepT s s.a r.b s.f)
 else bif decide (kind = 4) then putS (putS o (keepT s s.a r.a s.f)) (keepL s r.b s.f)
 else bif decide (kind = 5) then putS (putS o (keepT s s.a r.a s.f)) (keepL s r.a (readP s r))
 else putS o (keepL s s.a s.f)
def applyP (l : List Sn) (r : Ru) : List Sn := l.foldl (stepP r (bif !daysP [r.a, r.b] then 0 else r.kd)) []
end Go.Proofs.YtphmhelkojdlaaaDoor
namespace Go.Proofs.YtphmhelkojdlaaaDoor
open Go.RowKit
set_option maxRecDepth 10000
set_option linter.unusedSimpArgs false
set_option linter.unusedVariables false
abbrev a42_1 (l : (List Sn)) (r : Ru) (i : Nat) := (Sn.mk (mx (l.getD i Sn.z).a (l.getD i Sn.z).a) (bif ((!decide (r.a = (-1))) && ((decide ((l.getD i Sn.z).b = (-1))) || (decide (r.a < (l.getD i Sn.z).b)))) then r.a else (l.getD i Sn.z).b) (l.getD i Sn.z).f)
abbrev a42_2 (l : (List Sn)) (r : Ru) (i : Nat) := (Sn.mk (mx (l.getD i Sn.z).a r.a) (l.getD i Sn.z).b (Fm.mk (bif (!decide ((l.getD i Sn.z).f.op = (1 : Int))) then 6 else r.f.op) (bif (!decide ((l.getD i Sn.z).f.op = (1 : Int))) then ⟨#[]⟩ else r.f.nm) (bif (!decide ((l.getD i Sn.z).f.op = (1 : Int))) then 0 else r.f.cm) (bif (!decide ((l.getD i Sn.z).f.op = (1 : Int))) then 0 else r.f.n) (bif (!decide ((l.getD i Sn.z).f.op = (1 : Int))) then [(l.getD i Sn.z).f, r.f] else r.f.ks)))
abbrev a42_3 (l : (List Sn)) (r : Ru) (i : Nat) := ((bif (!decide ((l.getD i Sn.z).f.op = (1 : Int))) then [(l.getD i Sn.z).f, r.f] else r.f.ks).map encF)
abbrev a42_4 (l : (List Sn)) (r : Ru) (i : Nat) := (bif ((!decide (r.a = (-1))) && ((decide ((l.getD i Sn.z).b = (-1))) || (decide (r.a < (l.getD i Sn.z).b)))) then r.a else (l.getD i Sn.z).b)
abbrev a42_5 (l : (List Sn)) (r : Ru) (i : Nat) := (bif (!decide ((l.getD i Sn.z).f.op = (1 : Int))) then ⟨#[]⟩ else r.f.nm)
abbrev a42_6 (l : (List Sn)) (r : Ru) (i : Nat) := (bif (!decide ((l.getD i Sn.z).f.op = (1 : Int))) then 6 else r.f.op)
abbrev a42_7 (l : (List Sn)) (r : Ru) (i : Nat) := (bif (!decide ((l.getD i Sn.z).f.op = (1 : Int))) then 0 else r.f.cm)
abbrev a42_8 (l : (List Sn)) (r : Ru) (i : Nat) := (bif (!decide ((l.getD i Sn.z).f.op = (1 : Int))) then 0 else r.f.n)
abbrev a42_9 (l : (List Sn)) (r : Ru) (i : Nat) := (bif ((!decide (r.b = (-1))) && ((decide ((l.getD i Sn.z).b = (-1))) || (decide (r.b < (l.getD i Sn.z).b)))) then r.b else (l.getD i Sn.z).b)
abbrev a42_10 (l : (List Sn)) (r : Ru) (i : Nat) := (Sn.mk (mx (l.getD i Sn.z).a r.b) (l.getD i Sn.z).b (l.getD i Sn.z).f)
abbrev a42_11 (l : (List Sn)) (i : Nat) := (Sn.mk (mx (l.getD i Sn.z).a (l.getD i Sn.z).a) (l.getD i Sn.z).b (l.getD i Sn.z).f)
abbrev a42_12 (l : (List Sn)) (r : Ru) (i : Nat) := ((!decide (r.a = (-1))) && ((decide ((l.getD i Sn.z).b = (-1))) || (decide (r.a < (l.getD i Sn.z).b))))
noncomputable abbrev b42_1 (l : (List Sn)) (i : Nat) : Id × AO := ([4, 20], .row ((celS (l.getD i Sn.z)).map .tv) false)
noncomputable abbrev b42_2 (l : (List Sn)) (r : Ru) (i : Nat) : Id × AO := ([38, 20], .row [.i (a42_6 l r i), .tv (.str (a42_5 l r i)), .i (a42_7 l r i), .i (a42_8 l r i), .tv (.sli 5 (a42_3 l r i))] false)
noncomputable abbrev b42_3 (o : List Sn) : Id × AO := ([2], .row [.sl [0, 20] 7 0 o.length] false)
noncomputable abbrev b42_4 (l : (List Sn)) (i : Nat) (r : Ru) : Id × AO := ([0, 40, 20], .row [.i (mx (l.getD i Sn.z).a r.b), .i (l.getD i Sn.z).b, .i (l.getD i Sn.z).f.op, .tv (.str (l.getD i Sn.z).f.nm), .i (l.getD i Sn.z).f.cm, .i (l.getD i Sn.z).f.n, .tv (.sli 5 ((l.getD i Sn.z).f.ks.map encF))] false)
noncomputable abbrev b42_5 (l : (List Sn)) (i : Nat) : Id × AO := ([0, 33, 20], .row [.i (mx (l.getD i Sn.z).a (l.getD i Sn.z).a), .i (l.getD i Sn.z).b, .i (l.getD i Sn.z).f.op, .tv (.str (l.getD i Sn.z).f.nm), .i (l.getD i Sn.z).f.cm, .i (l.getD i Sn.z).f.n, .tv (.sli 5 ((l.getD i Sn.z).f.ks.map encF))] false)
noncomputable abbrev b42_6 (l : (List Sn)) (r : Ru) (i : Nat) : Id × AO := ([1, 56, 20], .row [.i (a42_6 l r i), .tv (.str (a42_5 l r i)), .i (a42_7 l r i), .i (a42_8 l r i), .tv (.sli 5 (a42_3 l r i))] false)
noncomputable abbrev b42_7 (l : (List Sn)) (i : Nat) (r : Ru) : Id × AO := ([0, 56, 20], .row [.i (mx (l.getD i Sn.z).a r.a), .i (l.getD i Sn.z).b, .i (a42_6 l r i), .tv (.str (a42_5 l r i)), .i (a42_7 l r i), .i (a42_8 l r i), .tv (.sli 5 (a42_3 l r i))] false)
noncomputable abbrev b42_8 (l : (List Sn)) (i : Nat) (r : Ru) : Id × AO := ([0, 56, 20], .row [.i (mx (l.getD i Sn.z).a r.a), .i (l.getD i Sn.z).b, .i (l.getD i Sn.z).f.op, .tv (.str (l.getD i Sn.z).f.nm), .i (l.getD i Sn.z).f.cm, .i (l.getD i Sn.z).f.n, .tv (.sli 5 ((l.getD i Sn.z).f.ks.map encF))] false)
noncomputable abbrev b42_9 (l : (List Sn)) (i : Nat) (r : Ru) : Id × AO := ([0, 29, 20], .row [.i (mx (l.getD i Sn.z).a (l.getD i Sn.z).a), .i (a42_4 l r i), .i (l.getD i Sn.z).f.op, .tv (.str (l.getD i Sn.z).f.nm), .i (l.getD i Sn.z).f.cm, .i (l.getD i Sn.z).f.n, .tv (.sli 5 ((l.getD i Sn.z).f.ks.map encF))] false)
noncomputable abbrev b42_10 (l : (List Sn)) (i : Nat) (r : Ru) : Id × AO := ([0, 31, 20], .row [.i (mx (l.getD i Sn.z).a (l.getD i Sn.z).a), .i (a42_9 l r i), .i (l.getD i Sn.z).f.op, .tv (.str (l.getD i Sn.z).f.nm), .i (l.getD i Sn.z).f.cm, .i (l.getD i Sn.z).f.n, .tv (.sli 5 ((l.getD i Sn.z).f.ks.map encF))] false)
noncomputable abbrev b42_11 (l : (List Sn)) (i : Nat) (r : Ru) : Id × AO := ([0, 33, 20], .row [.i (mx (l.getD i Sn.z).a (l.getD i Sn.z).a), .i (a42_4 l r i), .i (l.getD i Sn.z).f.op, .tv (.str (l.getD i Sn.z).f.nm), .i (l.getD i Sn.z).f.cm, .i (l.getD i Sn.z).f.n, .tv (.sli 5 ((l.getD i Sn.z).f.ks.map encF))] false)
noncomputable abbrev b42_12 (l : (List Sn)) (i : Nat) (r : Ru) : Id × AO := ([0, 35, 20], .row [.i (mx (l.getD i Sn.z).a (l.getD i Sn.z).a), .i (a42_4 l r i), .i (l.getD i Sn.z).f.op, .tv (.str (l.getD i Sn.z).f.nm), .i (l.getD i Sn.z).f.cm, .i (l.getD i Sn.z).f.n, .tv (.sli 5 ((l.getD i Sn.z).f.ks.map encF))] false)
noncomputable abbrev b42_13 (o : List Sn) (l : (List Sn)) (r : Ru) (i : Nat) : Id × AO := ([2], .row [.sl [40, 35, 20] 7 0 (o ++ [(a42_1 l r i)]).length] false)
noncomputable abbrev b42_14 (l : (List Sn)) (i : Nat) : Id × AO := ([1, 33, 20], .row ((celF (l.getD i Sn.z).f).map .tv) false)
noncomputable abbrev b42_15 (o : List Sn) (l : (List Sn)) (r : Ru) (i : Nat) : Id × AO := ([2], .row [.sl [40, 33, 20] 7 0 (o ++ [(a42_1 l r i)]).length] false)
noncomputable abbrev b42_16 (o : List Sn) (l : (List Sn)) (r : Ru) (i : Nat) : Id × AO := ([40, 35, 20], .row (flat celS (o ++ [(a42_1 l r i)])) false)
noncomputable abbrev b42_17 (l : (List Sn)) (i : Nat) : Id × AO := ([1, 40, 20], .row ((celF (l.getD i Sn.z).f).map .tv) false)
noncomputable abbrev b42_18 (o : List Sn) (l : (List Sn)) (r : Ru) (i : Nat) : Id × AO := ([40, 33, 20], .row (flat celS (o ++ [(a42_1 l r i)])) false)
noncomputable abbrev b42_19 (l : (List Sn)) (i : Nat) : Id × AO := ([0, 29, 20], .row [.i (mx (l.getD i Sn.z).a (l.getD i Sn.z).a), .i (l.getD i Sn.z).b, .i (l.getD i Sn.z).f.op, .tv (.str (l.getD i Sn.z).f.nm), .i (l.getD i Sn.z).f.cm, .i (l.getD i Sn.z).f.n, .tv (.sli 5 ((l.getD i Sn.z).f.ks.map encF))] false)
noncomputable abbrev b42_20 (l : (List Sn)) (i : Nat) : Id × AO := ([0, 31, 20], .row [.i (mx (l.getD i Sn.z).a (l.getD i Sn.z).a), .i (l.getD i Sn.z).b, .i (l.getD i Sn.z).f.op, .tv (.str (l.getD i Sn.z).f.nm), .i (l.getD i Sn.z).f.cm, .i (l.getD i Sn.z).f.n, .tv (.sli 5 ((l.getD i Sn.z).f.ks.map encF))] false)
noncomputable abbrev b42_21 (l : (List Sn)) (i : Nat) : Id × AO := ([0, 35, 20], .row [.i (mx (l.getD i Sn.z).a (l.getD i Sn.z).a), .i (l.getD i Sn.z).b, .i (l.getD i Sn.z).f.op, .tv (.str (l.getD i Sn.z).f.nm), .i (l.getD i Sn.z).f.cm, .i (l.getD i Sn.z).f.n, .tv (.sli 5 ((l.getD i Sn.z).f.ks.map encF))] false)
noncomputable abbrev b42_22 (l : (List Sn)) (i : Nat) : Id × AO := ([1, 29, 20], .row ((celF (l.getD i Sn.z).f).map .tv) false)
noncomputable abbrev b42_23 (l : (List Sn)) (i : Nat) : Id × AO := ([1, 31, 20], .row ((celF (l.getD i Sn.z).f).map .tv) false)
noncomputable abbrev b42_24 (l : (List Sn)) (i : Nat) : Id × AO := ([1, 35, 20], .row ((celF (l.getD i Sn.z).f).map .tv) false)
noncomputable abbrev b42_25 (o : List Sn) (l : (List Sn)) (i : Nat) (r : Ru) : Id × AO := ([2], .row [.sl [40, 31, 20] 7 0 (o ++ [(Sn.mk (mx (l.getD i Sn.z).a (l.getD i Sn.z).a) (a42_9 l r i) (l.getD i Sn.z).f)]).length] false)
noncomputable abbrev b42_26 (o : List Sn) (l : (List Sn)) (i : Nat) (r : Ru) : Id × AO := ([40, 31, 20], .row (flat celS (o ++ [(Sn.mk (mx (l.getD i Sn.z).a (l.getD i Sn.z).a) (a42_9 l r i) (l.getD i Sn.z).f)])) false)
noncomputable abbrev b42_27 (l : (List Sn)) (i : Nat) (r : Ru) : Id × AO := ([0, 29, 20], .row [.i (mx (l.getD i Sn.z).a (l.getD i Sn.z).a), .i r.a, .i (l.getD i Sn.z).f.op, .tv (.str (l.getD i Sn.z).f.nm), .i (l.getD i Sn.z).f.cm, .i (l.getD i Sn.z).f.n, .tv (.sli 5 ((l.getD i Sn.z).f.ks.map encF))] false)
noncomputable abbrev b42_28 (l : (List Sn)) (i : Nat) (r : Ru) : Id × AO := ([0, 31, 20], .row [.i (mx (l.getD i Sn.z).a (l.getD i Sn.z).a), .i r.b, .i (l.getD i Sn.z).f.op, .tv (.str (l.getD i Sn.z).f.nm), .i (l.getD i Sn.z).f.cm, .i (l.getD i Sn.z).f.n, .tv (.sli 5 ((l.getD i Sn.z).f.ks.map encF))] false)
noncomputable abbrev b42_29 (l : (List Sn)) (i : Nat) (r : Ru) : Id × AO := ([0, 33, 20], .row [.i (mx (l.getD i Sn.z).a (l.getD i Sn.z).a), .i r.a, .i (l.getD i Sn.z).f.op, .tv (.str (l.getD i Sn.z).f.nm), .i (l.getD i Sn.z).f.cm, .i (l.getD i Sn.z).f.n, .tv (.sli 5 ((l.getD i Sn.z).f.ks.map encF))] false)
noncomputable abbrev b42_30 (l : (List Sn)) (i : Nat) (r : Ru) : Id × AO := ([0, 35, 20], .row [.i (mx (l.getD i Sn.z).a (l.getD i Sn.z).a), .i r.a, .i (l.getD i Sn.z).f.op, .tv (.str (l.getD i Sn.z).f.nm), .i (l.getD i Sn.z).f.cm, .i (l.getD i Sn.z).f.n, .tv (.sli 5 ((l.getD i Sn.z).f.ks.map encF))] false)
noncomputable abbrev b42_31 (o : List Sn) (l : (List Sn)) (r : Ru) (i : Nat) : Id × AO := ([2], .row [.sl [37, 40, 20] 7 0 ((o ++ [(a42_1 l r i)]) ++ [(a42_10 l r i)]).length] false)
noncomputable abbrev b42_32 (o : List Sn) (l : (List Sn)) (r : Ru) (i : Nat) : Id × AO := ([2], .row [.sl [37, 56, 20] 7 0 ((o ++ [(a42_1 l r i)]) ++ [(a42_2 l r i)]).length] false)
noncomputable abbrev b42_33 (o : List Sn) (l : (List Sn)) (r : Ru) (i : Nat) : Id × AO := ([37, 40, 20], .row (flat celS ((o ++ [(a42_1 l r i)]) ++ [(a42_10 l r i)])) false)
noncomputable abbrev b42_34 (o : List Sn) (l : (List Sn)) (r : Ru) (i : Nat) : Id × AO := ([37, 56, 20], .row (flat celS ((o ++ [(a42_1 l r i)]) ++ [(a42_2 l r i)])) false)
noncomputable abbrev b42_35 (o : List Sn) (l : (List Sn)) (r : Ru) (i : Nat) : Id × AO := ([2], .row [.sl [37, 40, 20] 7 0 (o ++ [(a42_10 l r i)]).length] false)
noncomputable abbrev b42_36 (o : List Sn) (l : (List Sn)) (r : Ru) (i : Nat) : Id × AO := ([2], .row [.sl [40, 29, 20] 7 0 (o ++ [(a42_1 l r i)]).length] false)
noncomputable abbrev b42_37 (o : List Sn) (l : (List Sn)) (r : Ru) (i : Nat) : Id × AO := ([2], .row [.sl [37, 56, 20] 7 0 (o ++ [(a42_2 l r i)]).length] false)
noncomputable abbrev b42_38 (o : List Sn) (l : (List Sn)) (i : Nat) : Id × AO := ([2], .row [.sl [37, 33, 20] 7 0 (o ++ [(a42_11 l i)]).length] false)
noncomputable abbrev b42_39 (o : List Sn) (l : (List Sn)) (r : Ru) (i : Nat) : Id × AO := ([37, 40, 20], .row (flat celS (o ++ [(a42_10 l r i)])) false)
noncomputable abbrev b42_40 (o : List Sn) (l : (List Sn)) (r : Ru) (i : Nat) : Id × AO := ([40, 29, 20], .row (flat celS (o ++ [(a42_1 l r i)])) false)
noncomputable abbrev b42_41 (o : List Sn) (l : (List Sn)) (r : Ru) (i : Nat) : Id × AO := ([37, 56, 20], .row (flat celS (o ++ [(a42_2 l r i)])) false)
noncomputable abbrev b42_42 (o : List Sn) (l : (List Sn)) (i : Nat) : Id × AO := ([37, 33, 20], .row (flat celS (o ++ [(a42_11 l i)])) false)
noncomputable abbrev b42_43 (l : (List Sn)) (i : Nat) (o : List Sn) (r : Ru) : Hp := [(b42_1 l i), ([0, 20], .row (flat celS o) false), (b42_3 o), ([0], .row ((celR r).map .tv) false)]
noncomputable abbrev b42_44 (l : (List Sn)) (i : Nat) (o : List Sn) (r : Ru) : Hp := [(b42_14 l i), (b42_5 l i), (b42_1 l i), ([0, 20], .row (flat celS o) false), (b42_3 o), ([0], .row ((celR r).map .tv) false)]
noncomputable abbrev b42_45 (l : (List Sn)) (i : Nat) (r : Ru) (o : List Sn) : Hp := [(b42_17 l i), (b42_4 l i r), (b42_1 l i), ([0, 20], .row (flat celS o) false), (b42_3 o), ([0], .row ((celR r).map .tv) false)]
noncomputable abbrev b42_46 (l : (List Sn)) (i : Nat) (r : Ru) (o : List Sn) : Hp := [(b42_17 l i), (b42_4 l i r), (b42_18 o l r i), (b42_1 l i), (b42_15 o l r i), ([0], .row ((celR r).map .tv) false)]
noncomputable abbrev b42_47 (o : List Sn) (l : (List Sn)) (r : Ru) (i : Nat) : Hp := [(b42_18 o l r i), (b42_1 l i), (b42_15 o l r i), ([0], .row ((celR r).map .tv) false)]
noncomputable abbrev b42_48 (l : (List Sn)) (r : Ru) (i : Nat) (o : List Sn) : Hp := [(b42_2 l r i), (b42_1 l i), ([0, 20], .row (flat celS o) false), (b42_3 o), ([0], .row ((celR r).map .tv) false)]
noncomputable abbrev b42_49 (l : (List Sn)) (r : Ru) (i : Nat) (o : List Sn) : Hp := [(b42_2 l r i), (b42_16 o l r i), (b42_1 l i), (b42_13 o l r i), ([0], .row ((celR r).map .tv) false)]
noncomputable abbrev b42_50 (l : (List Sn)) (r : Ru) (i : Nat) (o : List Sn) : Hp := [(b42_6 l r i), (b42_7 l i r), (b42_2 l r i), (b42_1 l i), ([0, 20], .row (flat celS o) false), (b42_3 o), ([0], .row ((celR r).map .tv) false)]
noncomputable abbrev b42_51 (l : (List Sn)) (i : Nat) (o : List Sn) (r : Ru) : Hp := [(b42_14 l i), ([0, 33, 20], .row ((celS (l.getD i Sn.z)).map .tv) false), (b42_1 l i), ([0, 20], .row (flat celS o) false), (b42_3 o), ([0], .row ((celR r).map .tv) false)]
noncomputable abbrev b42_52 (l : (List Sn)) (r : Ru) (i : Nat) (o : List Sn) : Hp := [(b42_6 l r i), (b42_7 l i r), (b42_2 l r i), (b42_16 o l r i), (b42_1 l i), (b42_13 o l r i), ([0], .row ((celR r).map .tv) false)]
noncomputable abbrev b42_53 (l : (List Sn)) (i : Nat) (r : Ru) (o : List Sn) : Hp := [(b42_23 l i), (b42_10 l i r), (b42_1 l i), ([0, 20], .row (flat celS o) false), (b42_3 o), ([0], .row ((celR r).map .tv) false)]
noncomputable abbrev b42_54 (l : (List Sn)) (i : Nat) (r : Ru) (o : List Sn) : Hp := [(b42_14 l i), (b42_11 l i r), (b42_1 l i), ([0, 20], .row (flat celS o) false), (b42_3 o), ([0], .row ((celR r).map .tv) false)]
noncomputable abbrev b42_55 (l : (List Sn)) (i : Nat) (r : Ru) (o : List Sn) : Hp := [(b42_24 l i), (b42_12 l i r), (b42_1 l i), ([0, 20], .row (flat celS o) false), (b42_3 o), ([0], .row ((celR r).map .tv) false)]
noncomputable abbrev b42_56 (l : (List Sn)) (i : Nat) (r : Ru) (o : List Sn) : Hp := [(b42_22 l i), (b42_9 l i r), (b42_1 l i), ([0, 20], .row (flat celS o) false), (b42_3 o), ([0], .row ((celR r).map .tv) false)]
noncomputable abbrev b42_57 (l : (List Sn)) (r : Ru) (i : Nat) (o : List Sn) : Hp := [(b42_6 l r i), (b42_8 l i r), (b42_2 l r i), (b42_1 l i), ([0, 20], .row (flat celS o) false), (b42_3 o), ([0], .row ((celR r).map .tv) false)]
noncomputable abbrev b42_58 (l : (List Sn)) (r : Ru) (i : Nat) (o : List Sn) : Hp := [(b42_6 l r i), (b42_8 l i r), (b42_2 l r i), (b42_16 o l r i), (b42_1 l i), (b42_13 o l r i), ([0], .row ((celR r).map .tv) false)]
noncomputable abbrev b42_59 (l : (List Sn)) (i : Nat) (o : List Sn) (r : Ru) : Hp := [(b42_22 l i), (b42_19 l i), (b42_1 l i), ([0, 20], .row (flat celS o) false), (b42_3 o), ([0], .row ((celR r).map .tv) false)]
noncomputable abbrev b42_60 (l : (List Sn)) (i : Nat) (o : List Sn) (r : Ru) : Hp := [(b42_23 l i), (b42_20 l i), (b42_1 l i), ([0, 20], .row (flat celS o) false), (b42_3 o), ([0], .row ((celR r).map .tv) false)]
noncomputable abbrev b42_61 (l : (List Sn)) (i : Nat) (o : List Sn) (r : Ru) : Hp := [(b42_24 l i), (b42_21 l i), (b42_1 l i), ([0, 20], .row (flat celS o) false), (b42_3 o), ([0], .row ((celR r).map .tv) false)]
noncomputable abbrev b42_62 (r : Ru) : Hp := [([2], .row [.tv .nils] false), ([0], .row ((celR r).map .tv) false)]
noncomputable abbrev b42_63 (o : List Sn) (l : (List Sn)) (r : Ru) (i : Nat) : Hp := [(b42_41 o l r i), (b42_2 l r i), (b42_1 l i), (b42_37 o l r i), ([0], .row ((celR r).map .tv) false)]
noncomputable abbrev b42_64 (o : List Sn) (l : (List Sn)) (r : Ru) (i : Nat) : Hp := [(b42_34 o l r i), (b42_2 l r i), (b42_1 l i), (b42_32 o l r i), ([0], .row ((celR r).map .tv) false)]
noncomputable abbrev b42_65 (l : (List Sn)) (r : Ru) (i : Nat) (o : List Sn) : Hp := [(b42_6 l r i), ([0, 56, 20], .row ((celS (l.getD i Sn.z)).map .tv) false), (b42_2 l r i), (b42_1 l i), ([0, 20], .row (flat celS o) false), (b42_3 o), ([0], .row ((celR r).map .tv) false)]
noncomputable abbrev b42_66 (o : List Sn) (l : (List Sn)) (r : Ru) (i : Nat) : Hp := [(b42_40 o l r i), (b42_1 l i), (b42_36 o l r i), ([0], .row ((celR r).map .tv) false)]
noncomputable abbrev b42_67 (o : List Sn) (l : (List Sn)) (i : Nat) (r : Ru) : Hp := [(b42_26 o l i r), (b42_1 l i), (b42_25 o l i r), ([0], .row ((celR r).map .tv) false)]
noncomputable abbrev b42_68 (o : List Sn) (l : (List Sn)) (r : Ru) (i : Nat) : Hp := [(b42_39 o l r i), (b42_1 l i), (b42_35 o l r i), ([0], .row ((celR r).map .tv) false)]
noncomputable abbrev b42_69 (o : List Sn) (l : (List Sn)) (r : Ru) (i : Nat) : Hp := [(b42_33 o l r i), (b42_1 l i), (b42_31 o l r i), ([0], .row ((celR r).map .tv) false)]
noncomputable abbrev b42_70 (o : List Sn) (r : Ru) : Hp := [([0, 20], .row (flat celS o) false), (b42_3 o), ([0], .row ((celR r).map .tv) false)]
noncomputable abbrev b42_71 (o : List Sn) (l : (List Sn)) (i : Nat) (r : Ru) : Hp := [(b42_42 o l i), (b42_1 l i), (b42_38 o l i), ([0], .row ((celR r).map .tv) false)]
theorem c42 (l : (List Sn)) (r : Ru) (hl : l.length ≤ 100000000) : PureCall Tryd.prog 42 [.tv (.sli 7 (l.map celS)), agR r] (.tv (.sli 7 ((applyP l r).map celS))) := by
 refine walk0 (fn := Tryd.f42) [.tmp 4] Tryd.func42 rfl (by kernel_rfl) rfl (by kernel_rfl) (by kernel_rfl) ?_
 change AT _ _ _ ⟨[(0, .tv (.sli 7 (l.map celS))), (1, agR r)], [], [], 0⟩
 refine at_len 0 rfl (fun hlen => ?_)
 refine at_B [0, 3] [] [] [(1000000, .any), (0, .tv (.sli 7 (l.map celS))), (3, .ptr [0] 0)] [([0], .row ((celR r).map .tv) false)] 2 (by kernel_rfl) ?_ ?_
 ·exact trivial
 refine at_B [0, 3, 5] [] [] [(1000000, .any), (0, .tv (.sli 7 (l.map celS))), (3, .ptr [0] 0), (5, .ptr [2] 0)] (b42_62 r) 3 (by kernel_rfl) ?_ ?_
 ·exact trivial
 refine at_B [0, 3, 5, 6] [] [] [(1000000, .any), (0, .tv (.sli 7 (l.map celS))), (3, .ptr [0] 0), (5, .ptr [2] 0), (6, .fn (.func 70) [.ptr [2] 0])] (b42_62 r) 5 (by kernel_rfl) ?_ ?_
 ·exact trivial
 refine at_B [0, 3, 5, 6, 7] [] [] [(1000000, .any), (0, .tv (.sli 7 (l.map celS))), (3, .ptr [0] 0), (5, .ptr [2] 0), (6, .fn (.func 70) [.ptr [2] 0]), (7, .i r.kd)] (b42_62 r) 8 (by kernel_rfl) ?_ ?_
 ·exact trivial
 refine at_seq ?_
 refine at_B [0, 3, 5, 6, 7, 20] [.std, .std, .std, .std, .eq (.tv (.sli 1 (([r.a, r.b] : List _).map encI))), .ret (.b (daysP ([r.a, r.b])))] [(.tv (.sli 1 [[.int .i64 r.a], [.int .i64 r.b]]) : AV) = .tv (.sli 1 (([r.a, r.b] : List _).map encI)), PureCall Tryd.prog 68 [.tv (.sli 1 (([r.a, r.b] : List _).map encI))] (.b (daysP ([r.a, r.b])))] [(1000000, .any), (0, .tv (.sli 7 (l.map celS))), (3, .ptr [0] 0), (5, .ptr [2] 0), (6, .fn (.func 70) [.ptr [2] 0]), (7, .i r.kd), (20, .b (!(daysP ([r.a, r.b]))))] (b42_62 r) 15 (by kernel_rfl) ?_ ?_
 ·exact ⟨rfl, (c68 [r.a, r.b]), trivial⟩
 refine at_mergel (p := []) [(1000000, .any), (0, .tv (.sli 7 (l.map celS))), (3, .ptr [0] 0), (5, .ptr [2] 0), (6, .fn (.func 70) [.ptr [2] 0]), (7, .i (bif (!(daysP ([r.a, r.b]))) then 0 else r.kd))] [([2], .row [.tv .nils] false), ([0], .row ((celR r).map .tv) false)] 16 ?_ ?_
 ·refine at_cond (b := (!(daysP ([r.a, r.b])))) rfl rfl (fun hc20 => ?_) (fun hc20 => ?_)
  ·skip
   refine at_Bl [0, 3, 5, 6, 7] [] [] [(1000000, .any), (0, .tv (.sli 7 (l.map celS))), (3, .ptr [0] 0), (5, .ptr [2] 0), (6, .fn (.func 70) [.ptr [2] 0]), (7, .i 0)] (b42_62 r) 16 (by kernel_rfl) ?_ ?_
   ·exact trivial
   exact gh_merge [0, 3, 5, 6, 7] [[2], [0]] (Eq.trans (b := [(1000000, .any), (0, .tv (.sli 7 (l.map celS))), (3, .ptr [0] 0), (5, .ptr [2] 0), (6, .fn (.func 70) [.ptr [2] 0]), (7, .i 0)]) (by kernel_rfl) (by simp only [hc20, a42_1, a42_2, a42_3, a42_4, a42_5, a42_6, a42_7, a42_8, a42_9, a42_10, a42_11, a42_12, cond_true, cond_false]; try rfl)) (by kernel_rfl) (by kernel_rfl)
  ·skip
   refine at_skip ?_
   exact gh_merge [0, 3, 5, 6, 7] [[2], [0]] (Eq.trans (b := [(1000000, .any), (0, .tv (.sli 7 (l.map celS))), (3, .ptr [0] 0), (5, .ptr [2] 0), (6, .fn (.func 70) [.ptr [2] 0]), (7, .i r.kd)]) (by kernel_rfl) (by simp only [hc20, a42_1, a42_2, a42_3, a42_4, a42_5, a42_6, a42_7, a42_8, a42_9, a42_10, a42_11, a42_12, cond_true, cond_false]; try rfl)) (by kernel_rfl) (by kernel_rfl)
 change AT _ _ _ _
 refine at_seq ?_
 refine at_B [3, 5, 6, 7, 21, 22, 23] [] [] [(1000000, .any), (3, .ptr [0] 0), (5, .ptr [2] 0), (6, .fn (.func 70) [.ptr [2] 0]), (7, .i (bif (!(daysP ([r.a, r.b]))) then 0 else r.kd)), (21, .tv (.sli 7 (l.map celS))), (22, .i (((l.map celS).length : Nat) : Int)), (23, .i 0)] (b42_62 r) 19 (by kernel_rfl) ?_ ?_
 ·exact trivial
 refine at_block ?_
 refine at_pre (Gh.ownc [2] 0 7 _ false rfl rfl) ?_
 change AT _ _ _ ⟨[(1000000, .any), (3, .ptr [0] 0), (5, .ptr [2] 0), (6, .fn (.func 70) [.ptr [2] 0]), (7, .i (bif (!(daysP ([r.a, r.b]))) then 0 else r.kd)), (21, .tv (.sli 7 (l.map celS))), (22, .i (((l.map celS).length : Nat) : Int)), (23, .i 0)], [([19], .row [] false), ([2], .row [.sl [19] 7 0 0] false), ([0], .row ((celR r).map .tv) false)], [], 20⟩
 refine at_loopR (X := Nat × List Sn) 1 (fun ((i, o) : Nat × List Sn) => [(1000000, .any), (3, .ptr [0] 0), (5, .ptr [2] 0), (6, .fn (.func 70) [.ptr [2] 0]), (7, .i (bif (!(daysP ([r.a, r.b]))) then 0 else r.kd)), (21, .tv (.sli 7 (l.map celS))), (22, .i (((l.map celS).length : Nat) : Int)), (23, .i ((i : Nat) : Int))]) (fun ((i, o) : Nat × List Sn) => (b42_70 o r)) (fun ((i, o) : Nat × List Sn) => i ≤ l.length ∧ o.length ≤ 2 * i ∧ List.foldl (stepP r (bif !daysP [r.a, r.b] then 0 else r.kd)) o (l.drop i) = applyP l r) (fun ((i, o) : Nat × List Sn) => l.length - i) (0, []) ?_ ?_ ?_
 ·exact ⟨Nat.zero_le _, Nat.zero_le _, rfl⟩
 ·exact rn_ok [([19], [0, 20]), ([2], [2]), ([0], [0])] [] [3, 5, 6, 7, 21, 22, 23] (trivial) (by kernel_rfl)
 ·rintro ⟨i, o⟩ hinv
  dsimp only at hinv ⊢
  obtain ⟨hx1, hx2, hx3⟩ := hinv
  refine at_B [3, 5, 6, 7, 21, 22, 23, 24] [] [] [(1000000, .any), (3, .ptr [0] 0), (5, .ptr [2] 0), (6, .fn (.func 70) [.ptr [2] 0]), (7, .i (bif (!(daysP ([r.a, r.b]))) then 0 else r.kd)), (21, .tv (.sli 7 (l.map celS))), (22, .i (((l.map celS).length : Nat) : Int)), (23, .i ((i : Nat) : Int)), (24, .b (decide (((i : Nat) : Int) < (((l.map celS).length : Nat) : Int))))] (b42_70 o r) 2 (by kernel_rfl) ?_ ?_
  ·exact trivial
  refine at_seq ?_
  refine at_cond (b := (decide (((i : Nat) : Int) < (((l.map celS).length : Nat) : Int)))) rfl rfl (fun hc24 => ?_) (fun hc24 => ?_)
  ·have q24 := hc24
   (try simp only [brs] at q24)
   refine at_skip ?_
   change AT _ _ _ _
   refine at_seq ?_
   refine at_block ?_
   refine at_B [3, 5, 6, 7, 9, 21, 22, 23] [.eq (.tv (.ptr (celS (l.getD i Sn.z))))] [(0 ≤ ((i : Nat) : Int) ∧ ((i : Nat) : Int) < ((((l.map celS) : List (List TV)).length : Nat) : Int)), (.tv (.ptr (rowAt (l.map celS) ((i : Nat) : Int))) : AV) = .tv (.ptr (celS (l.getD i Sn.z)))] [(1000000, .any), (3, .ptr [0] 0), (5, .ptr [2] 0), (6, .fn (.func 70) [.ptr [2] 0]), (7, .i (bif (!(daysP ([r.a, r.b]))) then 0 else r.kd)), (9, .ptr [4, 20] 0), (21, .tv (.sli 7 (l.map celS))), (22, .i (((l.map celS).length : Nat) : Int)), (23, .i ((i : Nat) : Int))] (b42_43 l i o r) 6 (by kernel_rfl) ?_ ?_
   ·exact ⟨by (try simp only [brs, lns] at *); omega, congrArg (fun c => AV.tv (.ptr c)) (row_S l ((i : Nat) : Int) (by (try simp only [brs, lns] at *); omega)), trivial⟩
   refine at_seq ?_
   refine at_B [3, 5, 6, 7, 9, 21, 22, 23, 36] [] [] [(1000000, .any), (3, .ptr [0] 0), (5, .ptr [2] 0), (6, .fn (.func 70) [.ptr [2] 0]), (7, .i (bif (!(daysP ([r.a, r.b]))) then 0 else r.kd)), (9, .ptr [4, 20] 0), (21, .tv (.sli 7 (l.map celS))), (22, .i (((l.map celS).length : Nat) : Int)), (23, .i ((i : Nat) : Int)), (36, .b ((!decide ((l.getD i Sn.z).b = (-1))) && (decide ((l.getD i Sn.z).b ≤ (l.getD i Sn.z).a))))] (b42_43 l i o r) 16 (by kernel_rfl) ?_ ?_
   ·exact trivial
   refine at_cond (b := ((!decide ((l.getD i Sn.z).b = (-1))) && (decide ((l.getD i Sn.z).b ≤ (l.getD i Sn.z).a)))) rfl rfl (fun hc36 => ?_) (fun hc36 => ?_)
   ·skip
    refine at_exit ?_
    change AT _ _ _ _
    refine at_Bl [3, 5, 6, 7, 21, 22, 23] [.eq (.i ((i + 1 : Nat) : Int))] [(.i (wr (((i : Nat) : Int) + 1)) : AV) = .i ((i + 1 : Nat) : Int)] [(1000000, .any), (3, .ptr [0] 0), (5, .ptr [2] 0), (6, .fn (.func 70) [.ptr [2] 0]), (7, .i (bif (!(daysP ([r.a, r.b]))) then 0 else r.kd)), (21, .tv (.sli 7 (l.map celS))), (22, .i (((l.map celS).length : Nat) : Int)), (23, .i ((i + 1 : Nat) : Int))] (b42_43 l i o r) 18 (by kernel_rfl) ?_ ?_
    ·exact ⟨succ_av i (by (try simp only [brs, lns] at *); omega), trivial⟩
    refine ⟨rfl, (i + 1, o), ?_, ?_, ?_⟩
    ·(try dsimp only); omega
    ·(try dsimp only); exact ⟨by omega, by (try simp only [List.length_append, List.length_cons, List.length_nil]); omega, by (rw [← hx3, drop_get l i Sn.z (by omega), List.foldl_cons]; congr 1; simp only [stepP, hc24, hc36, cond_true, cond_false])⟩
    ·exact rn_ok [([0, 20], [0, 20]), ([2], [2]), ([0], [0])] [[0, 20]] [3, 5, 6, 7, 21, 22, 23] (⟨clO_flat _ _ _, trivial⟩) (by kernel_rfl)
   ·skip
    refine at_skip ?_
    change AT _ _ _ _
    refine at_B [3, 5, 6, 7, 9, 21, 22, 23, 37] [] [] [(1000000, .any), (3, .ptr [0] 0), (5, .ptr [2] 0), (6, .fn (.func 70) [.ptr [2] 0]), (7, .i (bif (!(daysP ([r.a, r.b]))) then 0 else r.kd)), (9, .ptr [4, 20] 0), (21, .tv (.sli 7 (l.map celS))), (22, .i (((l.map celS).length : Nat) : Int)), (23, .i ((i : Nat) : Int)), (37, .i (bif (!(daysP ([r.a, r.b]))) then 0 else r.kd))] (b42_43 l i o r) 17 (by kernel_rfl) ?_ ?_
    ·exact trivial
    refine at_block ?_
    refine at_B [3, 5, 6, 7, 9, 21, 22, 23, 37, 45] [] [] [(1000000, .any), (3, .ptr [0] 0), (5, .ptr [2] 0), (6, .fn (.func 70) [.ptr [2] 0]), (7, .i (bif (!(daysP ([r.a, r.b]))) then 0 else r.kd)), (9, .ptr [4, 20] 0), (21, .tv (.sli 7 (l.map celS))), (22, .i (((l.map celS).length : Nat) : Int)), (23, .i ((i : Nat) : Int)), (37, .i (bif (!(daysP ([r.a, r.b]))) then 0 else r.kd)), (45, .b (decide ((bif (!(daysP ([r.a, r.b]))) then 0 else r.kd) = (1 : Int))))] (b42_43 l i o r) 19 (by kernel_rfl) ?_ ?_
    ·exact trivial
    refine at_cond (b := (decide ((bif (!(daysP ([r.a, r.b]))) then 0 else r.kd) = (1 : Int)))) rfl rfl (fun hc45 => ?_) (fun hc45 => ?_)
    ·skip
     refine at_skip ?_
     change AT _ _ _ _
     refine at_Bl [3, 5, 6, 7, 21, 22, 23] [.eq (.i ((i + 1 : Nat) : Int))] [(.i (wr (((i : Nat) : Int) + 1)) : AV) = .i ((i + 1 : Nat) : Int)] [(1000000, .any), (3, .ptr [0] 0), (5, .ptr [2] 0), (6, .fn (.func 70) [.ptr [2] 0]), (7, .i (bif (!(daysP ([r.a, r.b]))) then 0 else r.kd)), (21, .tv (.sli 7 (l.map celS))), (22, .i (((l.map celS).length : Nat) : Int)), (23, .i ((i + 1 : Nat) : Int))] (b42_43 l i o r) 21 (by kernel_rfl) ?_ ?_
     ·exact ⟨succ_av i (by (try simp only [brs, lns] at *); omega), trivial⟩
     refine ⟨rfl, (i + 1, o), ?_, ?_, ?_⟩
     ·(try dsimp only); omega
     ·(try dsimp only); exact ⟨by omega, by (try simp only [List.length_append, List.length_cons, List.length_nil]); omega, by (rw [← hx3, drop_get l i Sn.z (by omega), List.foldl_cons]; congr 1; simp only [stepP, hc24, hc36, hc45, cond_true, cond_false])⟩
     ·exact rn_ok [([0, 20], [0, 20]), ([2], [2]), ([0], [0])] [[0, 20]] [3, 5, 6, 7, 21, 22, 23] (⟨clO_flat _ _ _, trivial⟩) (by kernel_rfl)
    ·skip
     refine at_B [3, 5, 6, 7, 9, 21, 22, 23, 37, 47] [] [] [(1000000, .any), (3, .ptr [0] 0), (5, .ptr [2] 0), (6, .fn (.func 70) [.ptr [2] 0]), (7, .i (bif (!(daysP ([r.a, r.b]))) then 0 else r.kd)), (9, .ptr [4, 20] 0), (21, .tv (.sli 7 (l.map celS))), (22, .i (((l.map celS).length : Nat) : Int)), (23, .i ((i : Nat) : Int)), (37, .i (bif (!(daysP ([r.a, r.b]))) then 0 else r.kd)), (47, .b (decide ((bif (!(daysP ([r.a, r.b]))) then 0 else r.kd) = (2 : Int))))] (b42_43 l i o r) 21 (by kernel_rfl) ?_ ?_
     ·exact trivial
     refine at_cond (b := (decide ((bif (!(daysP ([r.a, r.b]))) then 0 else r.kd) = (2 : Int)))) rfl rfl (fun hc47 => ?_) (fun hc47 => ?_)
     ·skip
      cases hs1 : (((decide ((a42_4 l r i) = (-1))) || (decide (mx (l.getD i Sn.z).a (l.getD i Sn.z).a < (a42_4 l r i)))))
      ·have qhs1 := hs1
       (try simp only [brs] at qhs1)
       refine at_Bl [3, 5, 6, 7, 21, 22, 23] [.std, .std, .std, .std, .std, .std, .std, .std, .retH (.tup []) (b42_43 l i o r)] [CallOK Tryd.prog 70 [agS (l.getD i Sn.z), .i (l.getD i Sn.z).a, .i r.a, agF (l.getD i Sn.z).f, .ptr [2] 0] (b42_43 l i o r) [29, 20] (fun v1 H1 => v1 = (.tup []) ∧ H1 = (b42_43 l i o r))] [(1000000, .any), (3, .ptr [0] 0), (5, .ptr [2] 0), (6, .fn (.func 70) [.ptr [2] 0]), (7, .i (bif (!(daysP ([r.a, r.b]))) then 0 else r.kd)), (21, .tv (.sli 7 (l.map celS))), (22, .i (((l.map celS).length : Nat) : Int)), (23, .i ((i : Nat) : Int))] (b42_43 l i o r) 30 (by kernel_rfl) ?_ ?_
       ·refine ⟨?_, trivial⟩
        ·refine call_in (fn := Tryd.f70) [] Tryd.func70 rfl (by kernel_rfl) rfl ?_
         change AT _ _ _ ⟨[(0, agS (l.getD i Sn.z)), (1, .i (l.getD i Sn.z).a), (2, .i r.a), (3, agF (l.getD i Sn.z).f), (4, .ptr [2] 0)], (b42_43 l i o r), [29, 20], 0⟩
         refine at_B [1, 2, 4, 5, 8] [] [] [(1000000, .any), (1, .i (l.getD i Sn.z).a), (2, .i r.a), (4, .ptr [2] 0), (5, .ptr [0, 29, 20] 0), (8, .ptr [1, 29, 20] 0)] [(b42_22 l i), ([0, 29, 20], .row ((celS (l.getD i Sn.z)).map .tv) false), (b42_1 l i), ([0, 20], .row (flat celS o) false), (b42_3 o), ([0], .row ((celR r).map .tv) false)] 2 (by kernel_rfl) ?_ ?_
         ·exact trivial
         refine at_B [2, 4, 5, 8] [] [] [(1000000, .any), (2, .i r.a), (4, .ptr [2] 0), (5, .ptr [0, 29, 20] 0), (8, .ptr [1, 29, 20] 0)] (b42_59 l i o r) 8 (by kernel_rfl) ?_ ?_
         ·exact trivial
         refine at_seq ?_
         refine at_B [2, 4, 5, 8, 26] [] [] [(1000000, .any), (2, .i r.a), (4, .ptr [2] 0), (5, .ptr [0, 29, 20] 0), (8, .ptr [1, 29, 20] 0), (26, .b (a42_12 l r i))] (b42_59 l i o r) 21 (by kernel_rfl) ?_ ?_
         ·exact trivial
         refine at_mergel (p := [29, 20]) [(1000000, .any), (4, .ptr [2] 0), (5, .ptr [0, 29, 20] 0), (8, .ptr [1, 29, 20] 0)] [([1, 29, 20], .row ((celF (l.getD i Sn.z).f).map .tv) false), ([0, 29, 20], .row [.i (mx (l.getD i Sn.z).a (l.getD i Sn.z).a), .i (a42_4 l r i), .i (l.getD i Sn.z).f.op, .tv (.str (l.getD i Sn.z).f.nm), .i (l.getD i Sn.z).f.cm, .i (l.getD i Sn.z).f.n, .tv (.sli 5 ((l.getD i Sn.z).f.ks.map encF))] false), ([4, 20], .row ((celS (l.getD i Sn.z)).map .tv) false), ([0, 20], .row (flat celS o) false), ([2], .row [.sl [0, 20] 7 0 o.length] false), ([0], .row ((celR r).map .tv) false)] 24 ?_ ?_
         ·refine at_cond (b := (a42_12 l r i)) rfl rfl (fun hc26_56 => ?_) (fun hc26_56 => ?_)
          ·skip
           refine at_Bl [4, 5, 8] [] [] [(1000000, .any), (4, .ptr [2] 0), (5, .ptr [0, 29, 20] 0), (8, .ptr [1, 29, 20] 0)] [(b42_22 l i), (b42_27 l i r), (b42_1 l i), ([0, 20], .row (flat celS o) false), (b42_3 o), ([0], .row ((celR r).map .tv) false)] 24 (by kernel_rfl) ?_ ?_
           ·exact trivial
           exact gh_merge [4, 5, 8] [[1, 29, 20], [0, 29, 20], [4, 20], [0, 20], [2], [0]] (by kernel_rfl) (Eq.trans (b := [([1, 29, 20], .row ((celF (l.getD i Sn.z).f).map .tv) false), ([0, 29, 20], .row [.i (mx (l.getD i Sn.z).a (l.getD i Sn.z).a), .i r.a, .i (l.getD i Sn.z).f.op, .tv (.str (l.getD i Sn.z).f.nm), .i (l.getD i Sn.z).f.cm, .i (l.getD i Sn.z).f.n, .tv (.sli 5 ((l.getD i Sn.z).f.ks.map encF))] false), ([4, 20], .row ((celS (l.getD i Sn.z)).map .tv) false), ([0, 20], .row (flat celS o) false), ([2], .row [.sl [0, 20] 7 0 o.length] false), ([0], .row ((celR r).map .tv) false)]) (by kernel_rfl) (by simp only [hc26_56, a42_1, a42_2, a42_3, a42_4, a42_5, a42_6, a42_7, a42_8, a42_9, a42_10, a42_11, a42_12, cond_true, cond_false]; try rfl)) (by kernel_rfl)
          ·skip
           refine at_skip ?_
           exact gh_merge [4, 5, 8] [[1, 29, 20], [0, 29, 20], [4, 20], [0, 20], [2], [0]] (by kernel_rfl) (Eq.trans (b := [([1, 29, 20], .row ((celF (l.getD i Sn.z).f).map .tv) false), ([0, 29, 20], .row [.i (mx (l.getD i Sn.z).a (l.getD i Sn.z).a), .i (l.getD i Sn.z).b, .i (l.getD i Sn.z).f.op, .tv (.str (l.getD i Sn.z).f.nm), .i (l.getD i Sn.z).f.cm, .i (l.getD i Sn.z).f.n, .tv (.sli 5 ((l.getD i Sn.z).f.ks.map encF))] false), ([4, 20], .row ((celS (l.getD i Sn.z)).map .tv) false), ([0, 20], .row (flat celS o) false), ([2], .row [.sl [0, 20] 7 0 o.length] false), ([0], .row ((celR r).map .tv) false)]) (by kernel_rfl) (by simp only [hc26_56, a42_1, a42_2, a42_3, a42_4, a42_5, a42_6, a42_7, a42_8, a42_9, a42_10, a42_11, a42_12, cond_true, cond_false]; try rfl)) (by kernel_rfl)
         change AT _ _ _ _
         refine at_B [4, 5] [] [] [(1000000, .any), (4, .ptr [2] 0), (5, .ptr [0, 29, 20] 0)] (b42_56 l i r o) 27 (by kernel_rfl) ?_ ?_
         ·exact trivial
         refine at_B [4, 5, 40] [] [] [(1000000, .any), (4, .ptr [2] 0), (5, .ptr [0, 29, 20] 0), (40, .b ((decide ((a42_4 l r i) = (-1))) || (decide (mx (l.getD i Sn.z).a (l.getD i Sn.z).a < (a42_4 l r i)))))] (b42_56 l i r o) 37 (by kernel_rfl) ?_ ?_
         ·exact trivial
         refine at_cond (b := ((decide ((a42_4 l r i) = (-1))) || (decide (mx (l.getD i Sn.z).a (l.getD i Sn.z).a < (a42_4 l r i))))) rfl rfl (fun h => ?_) (fun h => ?_)
         ·exact absurd (h.symm.trans hs1) (by decide)
         clear h
         refine at_skip ?_
         exact fin_in (.inl rfl) [[4, 20], [0, 20], [2], [0]] (.tup []) (b42_56 l i r o) (by kernel_rfl) rfl (by kernel_rfl)
       change AT _ _ _ _
       refine at_Bl [3, 5, 6, 7, 21, 22, 23] [.eq (.i ((i + 1 : Nat) : Int))] [(.i (wr (((i : Nat) : Int) + 1)) : AV) = .i ((i + 1 : Nat) : Int)] [(1000000, .any), (3, .ptr [0] 0), (5, .ptr [2] 0), (6, .fn (.func 70) [.ptr [2] 0]), (7, .i (bif (!(daysP ([r.a, r.b]))) then 0 else r.kd)), (21, .tv (.sli 7 (l.map celS))), (22, .i (((l.map celS).length : Nat) : Int)), (23, .i ((i + 1 : Nat) : Int))] (b42_43 l i o r) 32 (by kernel_rfl) ?_ ?_
       ·exact ⟨succ_av i (by (try simp only [brs, lns] at *); omega), trivial⟩
       refine ⟨rfl, (i + 1, o), ?_, ?_, ?_⟩
       ·(try dsimp only); omega
       ·(try dsimp only); exact ⟨by omega, by (try simp only [List.length_append, List.length_cons, List.length_nil]); omega, by (rw [← hx3, drop_get l i Sn.z (by omega), List.foldl_cons]; congr 1; simp only [stepP, hc24, hc36, hc45, hc47, cond_true, cond_false]; exact put_no hs1)⟩
       ·exact rn_ok [([0, 20], [0, 20]), ([2], [2]), ([0], [0])] [[0, 20]] [3, 5, 6, 7, 21, 22, 23] (⟨clO_flat _ _ _, trivial⟩) (by kernel_rfl)
      ·have qhs1 := hs1
       (try simp only [brs] at qhs1)
       refine at_Bl [3, 5, 6, 7, 21, 22, 23] [.std, .std, .std, .std, .std, .std, .std, .std, .retH (.tup []) (b42_66 o l r i)] [CallOK Tryd.prog 70 [agS (l.getD i Sn.z), .i (l.getD i Sn.z).a, .i r.a, agF (l.getD i Sn.z).f, .ptr [2] 0] (b42_43 l i o r) [29, 20] (fun v1 H1 => v1 = (.tup []) ∧ H1 = (b42_66 o l r i))] [(1000000, .any), (3, .ptr [0] 0), (5, .ptr [2] 0), (6, .fn (.func 70) [.ptr [2] 0]), (7, .i (bif (!(daysP ([r.a, r.b]))) then 0 else r.kd)), (21, .tv (.sli 7 (l.map celS))), (22, .i (((l.map celS).length : Nat) : Int)), (23, .i ((i : Nat) : Int))] (b42_66 o l r i) 30 (by kernel_rfl) ?_ ?_
       ·refine ⟨?_, trivial⟩
        ·refine call_in (fn := Tryd.f70) [] Tryd.func70 rfl (by kernel_rfl) rfl ?_
         change AT _ _ _ ⟨[(0, agS (l.getD i Sn.z)), (1, .i (l.getD i Sn.z).a), (2, .i r.a), (3, agF (l.getD i Sn.z).f), (4, .ptr [2] 0)], (b42_43 l i o r), [29, 20], 0⟩
         refine at_B [1, 2, 4, 5, 8] [] [] [(1000000, .any), (1, .i (l.getD i Sn.z).a), (2, .i r.a), (4, .ptr [2] 0), (5, .ptr [0, 29, 20] 0), (8, .ptr [1, 29, 20] 0)] [(b42_22 l i), ([0, 29, 20], .row ((celS (l.getD i Sn.z)).map .tv) false), (b42_1 l i), ([0, 20], .row (flat celS o) false), (b42_3 o), ([0], .row ((celR r).map .tv) false)] 2 (by kernel_rfl) ?_ ?_
         ·exact trivial
         refine at_B [2, 4, 5, 8] [] [] [(1000000, .any), (2, .i r.a), (4, .ptr [2] 0), (5, .ptr [0, 29, 20] 0), (8, .ptr [1, 29, 20] 0)] (b42_59 l i o r) 8 (by kernel_rfl) ?_ ?_
         ·exact trivial
         refine at_seq ?_
         refine at_B [2, 4, 5, 8, 26] [] [] [(1000000, .any), (2, .i r.a), (4, .ptr [2] 0), (5, .ptr [0, 29, 20] 0), (8, .ptr [1, 29, 20] 0), (26, .b (a42_12 l r i))] (b42_59 l i o r) 21 (by kernel_rfl) ?_ ?_
         ·exact trivial
         refine at_mergel (p := [29, 20]) [(1000000, .any), (4, .ptr [2] 0), (5, .ptr [0, 29, 20] 0), (8, .ptr [1, 29, 20] 0)] [([1, 29, 20], .row ((celF (l.getD i Sn.z).f).map .tv) false), ([0, 29, 20], .row [.i (mx (l.getD i Sn.z).a (l.getD i Sn.z).a), .i (a42_4 l r i), .i (l.getD i Sn.z).f.op, .tv (.str (l.getD i Sn.z).f.nm), .i (l.getD i Sn.z).f.cm, .i (l.getD i Sn.z).f.n, .tv (.sli 5 ((l.getD i Sn.z).f.ks.map encF))] false), ([4, 20], .row ((celS (l.getD i Sn.z)).map .tv) false), ([0, 20], .row (flat celS o) false), ([2], .row [.sl [0, 20] 7 0 o.length] false), ([0], .row ((celR r).map .tv) false)] 24 ?_ ?_
         ·refine at_cond (b := (a42_12 l r i)) rfl rfl (fun hc26_57 => ?_) (fun hc26_57 => ?_)
          ·skip
           refine at_Bl [4, 5, 8] [] [] [(1000000, .any), (4, .ptr [2] 0), (5, .ptr [0, 29, 20] 0), (8, .ptr [1, 29, 20] 0)] [(b42_22 l i), (b42_27 l i r), (b42_1 l i), ([0, 20], .row (flat celS o) false), (b42_3 o), ([0], .row ((celR r).map .tv) false)] 24 (by kernel_rfl) ?_ ?_
           ·exact trivial
           exact gh_merge [4, 5, 8] [[1, 29, 20], [0, 29, 20], [4, 20], [0, 20], [2], [0]] (by kernel_rfl) (Eq.trans (b := [([1, 29, 20], .row ((celF (l.getD i Sn.z).f).map .tv) false), ([0, 29, 20], .row [.i (mx (l.getD i Sn.z).a (l.getD i Sn.z).a), .i r.a, .i (l.getD i Sn.z).f.op, .tv (.str (l.getD i Sn.z).f.nm), .i (l.getD i Sn.z).f.cm, .i (l.getD i Sn.z).f.n, .tv (.sli 5 ((l.getD i Sn.z).f.ks.map encF))] false), ([4, 20], .row ((celS (l.getD i Sn.z)).map .tv) false), ([0, 20], .row (flat celS o) false), ([2], .row [.sl [0, 20] 7 0 o.length] false), ([0], .row ((celR r).map .tv) false)]) (by kernel_rfl) (by simp only [hc26_57, a42_1, a42_2, a42_3, a42_4, a42_5, a42_6, a42_7, a42_8, a42_9, a42_10, a42_11, a42_12, cond_true, cond_false]; try rfl)) (by kernel_rfl)
          ·skip
           refine at_skip ?_
           exact gh_merge [4, 5, 8] [[1, 29, 20], [0, 29, 20], [4, 20], [0, 20], [2], [0]] (by kernel_rfl) (Eq.trans (b := [([1, 29, 20], .row ((celF (l.getD i Sn.z).f).map .tv) false), ([0, 29, 20], .row [.i (mx (l.getD i Sn.z).a (l.getD i Sn.z).a), .i (l.getD i Sn.z).b, .i (l.getD i Sn.z).f.op, .tv (.str (l.getD i Sn.z).f.nm), .i (l.getD i Sn.z).f.cm, .i (l.getD i Sn.z).f.n, .tv (.sli 5 ((l.getD i Sn.z).f.ks.map encF))] false), ([4, 20], .row ((celS (l.getD i Sn.z)).map .tv) false), ([0, 20], .row (flat celS o) false), ([2], .row [.sl [0, 20] 7 0 o.length] false), ([0], .row ((celR r).map .tv) false)]) (by kernel_rfl) (by simp only [hc26_57, a42_1, a42_2, a42_3, a42_4, a42_5, a42_6, a42_7, a42_8, a42_9, a42_10, a42_11, a42_12, cond_true, cond_false]; try rfl)) (by kernel_rfl)
         change AT _ _ _ _
         refine at_B [4, 5] [] [] [(1000000, .any), (4, .ptr [2] 0), (5, .ptr [0, 29, 20] 0)] (b42_56 l i r o) 27 (by kernel_rfl) ?_ ?_
         ·exact trivial
         refine at_B [4, 5, 40] [] [] [(1000000, .any), (4, .ptr [2] 0), (5, .ptr [0, 29, 20] 0), (40, .b ((decide ((a42_4 l r i) = (-1))) || (decide (mx (l.getD i Sn.z).a (l.getD i Sn.z).a < (a42_4 l r i)))))] (b42_56 l i r o) 37 (by kernel_rfl) ?_ ?_
         ·exact trivial
         refine at_cond (b := ((decide ((a42_4 l r i) = (-1))) || (decide (mx (l.getD i Sn.z).a (l.getD i Sn.z).a < (a42_4 l r i))))) rfl rfl (fun h => ?_) (fun h => ?_)
         rotate_left
         ·exact absurd (h.symm.trans hs1) (by decide)
         clear h
         refine at_Bl [] [.std, .std, .eq (.tv (.sli 7 (([(a42_1 l r i)] : List _).map celS))), .eff (.sl [40, 29, 20] 7 0 (o ++ [(a42_1 l r i)]).length) (.row (flat celS (o ++ [(a42_1 l r i)])) false)] [(.tv (.sli 7 [[.int .i64 (mx (l.getD i Sn.z).a (l.getD i Sn.z).a), .int .i64 (a42_4 l r i), .int .i64 (l.getD i Sn.z).f.op, .str (l.getD i Sn.z).f.nm, .int .i64 (l.getD i Sn.z).f.cm, .int .i64 (l.getD i Sn.z).f.n, .sli 5 ((l.getD i Sn.z).f.ks.map encF)]]) : AV) = .tv (.sli 7 (([(a42_1 l r i)] : List _).map celS)), (7 = 7 ∧ 0 = 0 ∧ (flat celS o).length = o.length * 7 ∧ o.length + 1 ≤ 9223372036854775807 ∧ (o.length + 1) * 80 ≤ 140737488355328), (.sl [40, 29, 20] 7 0 (o.length + 1) : AV) = .sl [40, 29, 20] 7 0 (o ++ [(a42_1 l r i)]).length, (.row ((flat celS o) ++ (List.map AV.tv (List.flatten (([(a42_1 l r i)] : List _).map celS)))) false : AO) = .row (flat celS (o ++ [(a42_1 l r i)])) false] [(1000000, .any)] [(b42_40 o l r i), (b42_22 l i), (b42_9 l i r), (b42_1 l i), (b42_36 o l r i), ([0], .row ((celR r).map .tv) false)] 42 (by kernel_rfl) ?_ ?_
         ·exact ⟨rfl, ⟨rfl, rfl, flat_len (sz := 7) (fun _ => rfl) _, by (try simp only [brs, lns] at *); omega, by (try simp only [brs, lns] at *); omega⟩, by simp, congrArg (AO.row · false) (flat_app (rfl)), trivial⟩
         exact fin_in (.inl rfl) [[40, 29, 20], [4, 20], [2], [0]] (.tup []) [(b42_40 o l r i), (b42_22 l i), (b42_9 l i r), (b42_1 l i), (b42_36 o l r i), ([0], .row ((celR r).map .tv) false)] (by kernel_rfl) rfl (by kernel_rfl)
       change AT _ _ _ _
       refine at_Bl [3, 5, 6, 7, 21, 22, 23] [.eq (.i ((i + 1 : Nat) : Int))] [(.i (wr (((i : Nat) : Int) + 1)) : AV) = .i ((i + 1 : Nat) : Int)] [(1000000, .any), (3, .ptr [0] 0), (5, .ptr [2] 0), (6, .fn (.func 70) [.ptr [2] 0]), (7, .i (bif (!(daysP ([r.a, r.b]))) then 0 else r.kd)), (21, .tv (.sli 7 (l.map celS))), (22, .i (((l.map celS).length : Nat) : Int)), (23, .i ((i + 1 : Nat) : Int))] (b42_66 o l r i) 32 (by kernel_rfl) ?_ ?_
       ·exact ⟨succ_av i (by (try simp only [brs, lns] at *); omega), trivial⟩
       refine ⟨rfl, (i + 1, (o ++ [(a42_1 l r i)])), ?_, ?_, ?_⟩
       ·(try dsimp only); omega
       ·(try dsimp only); exact ⟨by omega, by (try simp only [List.length_append, List.length_cons, List.length_nil]); omega, by (rw [← hx3, drop_get l i Sn.z (by omega), List.foldl_cons]; congr 1; simp only [stepP, hc24, hc36, hc45, hc47, cond_true, cond_false]; exact put_yes hs1)⟩
       ·exact rn_ok [([40, 29, 20], [0, 20]), ([2], [2]), ([0], [0])] [[40, 29, 20]] [3, 5, 6, 7, 21, 22, 23] (⟨clO_flat _ _ _, trivial⟩) (by kernel_rfl)
     ·skip
      refine at_B [3, 5, 6, 7, 9, 21, 22, 23, 37, 58] [] [] [(1000000, .any), (3, .ptr [0] 0), (5, .ptr [2] 0), (6, .fn (.func 70) [.ptr [2] 0]), (7, .i (bif (!(daysP ([r.a, r.b]))) then 0 else r.kd)), (9, .ptr [4, 20] 0), (21, .tv (.sli 7 (l.map celS))), (22, .i (((l.map celS).length : Nat) : Int)), (23, .i ((i : Nat) : Int)), (37, .i (bif (!(daysP ([r.a, r.b]))) then 0 else r.kd)), (58, .b (decide ((bif (!(daysP ([r.a, r.b]))) then 0 else r.kd) = (3 : Int))))] (b42_43 l i o r) 23 (by kernel_rfl) ?_ ?_
      ·exact trivial
      refine at_cond (b := (decide ((bif (!(daysP ([r.a, r.b]))) then 0 else r.kd) = (3 : Int)))) rfl rfl (fun hc58 => ?_) (fun hc58 => ?_)
      ·skip
       cases hs2 : (((decide ((a42_9 l r i) = (-1))) || (decide (mx (l.getD i Sn.z).a (l.getD i Sn.z).a < (a42_9 l r i)))))
       ·have qhs2 := hs2
        (try simp only [brs] at qhs2)
        refine at_Bl [3, 5, 6, 7, 21, 22, 23] [.std, .std, .std, .std, .std, .std, .std, .std, .retH (.tup []) (b42_43 l i o r)] [CallOK Tryd.prog 70 [agS (l.getD i Sn.z), .i (l.getD i Sn.z).a, .i r.b, agF (l.getD i Sn.z).f, .ptr [2] 0] (b42_43 l i o r) [31, 20] (fun v1 H1 => v1 = (.tup []) ∧ H1 = (b42_43 l i o r))] [(1000000, .any), (3, .ptr [0] 0), (5, .ptr [2] 0), (6, .fn (.func 70) [.ptr [2] 0]), (7, .i (bif (!(daysP ([r.a, r.b]))) then 0 else r.kd)), (21, .tv (.sli 7 (l.map celS))), (22, .i (((l.map celS).length : Nat) : Int)), (23, .i ((i : Nat) : Int))] (b42_43 l i o r) 32 (by kernel_rfl) ?_ ?_
        ·refine ⟨?_, trivial⟩
         ·refine call_in (fn := Tryd.f70) [] Tryd.func70 rfl (by kernel_rfl) rfl ?_
          change AT _ _ _ ⟨[(0, agS (l.getD i Sn.z)), (1, .i (l.getD i Sn.z).a), (2, .i r.b), (3, agF (l.getD i Sn.z).f), (4, .ptr [2] 0)], (b42_43 l i o r), [31, 20], 0⟩
          refine at_B [1, 2, 4, 5, 8] [] [] [(1000000, .any), (1, .i (l.getD i Sn.z).a), (2, .i r.b), (4, .ptr [2] 0), (5, .ptr [0, 31, 20] 0), (8, .ptr [1, 31, 20] 0)] [(b42_23 l i), ([0, 31, 20], .row ((celS (l.getD i Sn.z)).map .tv) false), (b42_1 l i), ([0, 20], .row (flat celS o) false), (b42_3 o), ([0], .row ((celR r).map .tv) false)] 2 (by kernel_rfl) ?_ ?_
          ·exact trivial
          refine at_B [2, 4, 5, 8] [] [] [(1000000, .any), (2, .i r.b), (4, .ptr [2] 0), (5, .ptr [0, 31, 20] 0), (8, .ptr [1, 31, 20] 0)] (b42_60 l i o r) 8 (by kernel_rfl) ?_ ?_
          ·exact trivial
          refine at_seq ?_
          refine at_B [2, 4, 5, 8, 26] [] [] [(1000000, .any), (2, .i r.b), (4, .ptr [2] 0), (5, .ptr [0, 31, 20] 0), (8, .ptr [1, 31, 20] 0), (26, .b ((!decide (r.b = (-1))) && ((decide ((l.getD i Sn.z).b = (-1))) || (decide (r.b < (l.getD i Sn.z).b)))))] (b42_60 l i o r) 21 (by kernel_rfl) ?_ ?_
          ·exact trivial
          refine at_mergel (p := [31, 20]) [(1000000, .any), (4, .ptr [2] 0), (5, .ptr [0, 31, 20] 0), (8, .ptr [1, 31, 20] 0)] [([1, 31, 20], .row ((celF (l.getD i Sn.z).f).map .tv) false), ([0, 31, 20], .row [.i (mx (l.getD i Sn.z).a (l.getD i Sn.z).a), .i (a42_9 l r i), .i (l.getD i Sn.z).f.op, .tv (.str (l.getD i Sn.z).f.nm), .i (l.getD i Sn.z).f.cm, .i (l.getD i Sn.z).f.n, .tv (.sli 5 ((l.getD i Sn.z).f.ks.map encF))] false), ([4, 20], .row ((celS (l.getD i Sn.z)).map .tv) false), ([0, 20], .row (flat celS o) false), ([2], .row [.sl [0, 20] 7 0 o.length] false), ([0], .row ((celR r).map .tv) false)] 24 ?_ ?_
          ·refine at_cond (b := ((!decide (r.b = (-1))) && ((decide ((l.getD i Sn.z).b = (-1))) || (decide (r.b < (l.getD i Sn.z).b))))) rfl rfl (fun hc26_62 => ?_) (fun hc26_62 => ?_)
           ·skip
            refine at_Bl [4, 5, 8] [] [] [(1000000, .any), (4, .ptr [2] 0), (5, .ptr [0, 31, 20] 0), (8, .ptr [1, 31, 20] 0)] [(b42_23 l i), (b42_28 l i r), (b42_1 l i), ([0, 20], .row (flat celS o) false), (b42_3 o), ([0], .row ((celR r).map .tv) false)] 24 (by kernel_rfl) ?_ ?_
            ·exact trivial
            exact gh_merge [4, 5, 8] [[1, 31, 20], [0, 31, 20], [4, 20], [0, 20], [2], [0]] (by kernel_rfl) (Eq.trans (b := [([1, 31, 20], .row ((celF (l.getD i Sn.z).f).map .tv) false), ([0, 31, 20], .row [.i (mx (l.getD i Sn.z).a (l.getD i Sn.z).a), .i r.b, .i (l.getD i Sn.z).f.op, .tv (.str (l.getD i Sn.z).f.nm), .i (l.getD i Sn.z).f.cm, .i (l.getD i Sn.z).f.n, .tv (.sli 5 ((l.getD i Sn.z).f.ks.map encF))] false), ([4, 20], .row ((celS (l.getD i Sn.z)).map .tv) false), ([0, 20], .row (flat celS o) false), ([2], .row [.sl [0, 20] 7 0 o.length] false), ([0], .row ((celR r).map .tv) false)]) (by kernel_rfl) (by simp only [hc26_62, a42_1, a42_2, a42_3, a42_4, a42_5, a42_6, a42_7, a42_8, a42_9, a42_10, a42_11, a42_12, cond_true, cond_false]; try rfl)) (by kernel_rfl)
           ·skip
            refine at_skip ?_
            exact gh_merge [4, 5, 8] [[1, 31, 20], [0, 31, 20], [4, 20], [0, 20], [2], [0]] (by kernel_rfl) (Eq.trans (b := [([1, 31, 20], .row ((celF (l.getD i Sn.z).f).map .tv) false), ([0, 31, 20], .row [.i (mx (l.getD i Sn.z).a (l.getD i Sn.z).a), .i (l.getD i Sn.z).b, .i (l.getD i Sn.z).f.op, .tv (.str (l.getD i Sn.z).f.nm), .i (l.getD i Sn.z).f.cm, .i (l.getD i Sn.z).f.n, .tv (.sli 5 ((l.getD i Sn.z).f.ks.map encF))] false), ([4, 20], .row ((celS (l.getD i Sn.z)).map .tv) false), ([0, 20], .row (flat celS o) false), ([2], .row [.sl [0, 20] 7 0 o.length] false), ([0], .row ((celR r).map .tv) false)]) (by kernel_rfl) (by simp only [hc26_62, a42_1, a42_2, a42_3, a42_4, a42_5, a42_6, a42_7, a42_8, a42_9, a42_10, a42_11, a42_12, cond_true, cond_false]; try rfl)) (by kernel_rfl)
          change AT _ _ _ _
          refine at_B [4, 5] [] [] [(1000000, .any), (4, .ptr [2] 0), (5, .ptr [0, 31, 20] 0)] (b42_53 l i r o) 27 (by kernel_rfl) ?_ ?_
          ·exact trivial
          refine at_B [4, 5, 40] [] [] [(1000000, .any), (4, .ptr [2] 0), (5, .ptr [0, 31, 20] 0), (40, .b ((decide ((a42_9 l r i) = (-1))) || (decide (mx (l.getD i Sn.z).a (l.getD i Sn.z).a < (a42_9 l r i)))))] (b42_53 l i r o) 37 (by kernel_rfl) ?_ ?_
          ·exact trivial
          refine at_cond (b := ((decide ((a42_9 l r i) = (-1))) || (decide (mx (l.getD i Sn.z).a (l.getD i Sn.z).a < (a42_9 l r i))))) rfl rfl (fun h => ?_) (fun h => ?_)
          ·exact absurd (h.symm.trans hs2) (by decide)
          clear h
          refine at_skip ?_
          exact fin_in (.inl rfl) [[4, 20], [0, 20], [2], [0]] (.tup []) (b42_53 l i r o) (by kernel_rfl) rfl (by kernel_rfl)
        change AT _ _ _ _
        refine at_Bl [3, 5, 6, 7, 21, 22, 23] [.eq (.i ((i + 1 : Nat) : Int))] [(.i (wr (((i : Nat) : Int) + 1)) : AV) = .i ((i + 1 : Nat) : Int)] [(1000000, .any), (3, .ptr [0] 0), (5, .ptr [2] 0), (6, .fn (.func 70) [.ptr [2] 0]), (7, .i (bif (!(daysP ([r.a, r.b]))) then 0 else r.kd)), (21, .tv (.sli 7 (l.map celS))), (22, .i (((l.map celS).length : Nat) : Int)), (23, .i ((i + 1 : Nat) : Int))] (b42_43 l i o r) 34 (by kernel_rfl) ?_ ?_
        ·exact ⟨succ_av i (by (try simp only [brs, lns] at *); omega), trivial⟩
        refine ⟨rfl, (i + 1, o), ?_, ?_, ?_⟩
        ·(try dsimp only); omega
        ·(try dsimp only); exact ⟨by omega, by (try simp only [List.length_append, List.length_cons, List.length_nil]); omega, by (rw [← hx3, drop_get l i Sn.z (by omega), List.foldl_cons]; congr 1; simp only [stepP, hc24, hc36, hc45, hc47, hc58, cond_true, cond_false]; exact put_no hs2)⟩
        ·exact rn_ok [([0, 20], [0, 20]), ([2], [2]), ([0], [0])] [[0, 20]] [3, 5, 6, 7, 21, 22, 23] (⟨clO_flat _ _ _, trivial⟩) (by kernel_rfl)
       ·have qhs2 := hs2
        (try simp only [brs] at qhs2)
        refine at_Bl [3, 5, 6, 7, 21, 22, 23] [.std, .std, .std, .std, .std, .std, .std, .std, .retH (.tup []) (b42_67 o l i r)] [CallOK Tryd.prog 70 [agS (l.getD i Sn.z), .i (l.getD i Sn.z).a, .i r.b, agF (l.getD i Sn.z).f, .ptr [2] 0] (b42_43 l i o r) [31, 20] (fun v1 H1 => v1 = (.tup []) ∧ H1 = (b42_67 o l i r))] [(1000000, .any), (3, .ptr [0] 0), (5, .ptr [2] 0), (6, .fn (.func 70) [.ptr [2] 0]), (7, .i (bif (!(daysP ([r.a, r.b]))) then 0 else r.kd)), (21, .tv (.sli 7 (l.map celS))), (22, .i (((l.map celS).length : Nat) : Int)), (23, .i ((i : Nat) : Int))] (b42_67 o l i r) 32 (by kernel_rfl) ?_ ?_
        ·refine ⟨?_, trivial⟩
         ·refine call_in (fn := Tryd.f70) [] Tryd.func70 rfl (by kernel_rfl) rfl ?_
          change AT _ _ _ ⟨[(0, agS (l.getD i Sn.z)), (1, .i (l.getD i Sn.z).a), (2, .i r.b), (3, agF (l.getD i Sn.z).f), (4, .ptr [2] 0)], (b42_43 l i o r), [31, 20], 0⟩
          refine at_B [1, 2, 4, 5, 8] [] [] [(1000000, .any), (1, .i (l.getD i Sn.z).a), (2, .i r.b), (4, .ptr [2] 0), (5, .ptr [0, 31, 20] 0), (8, .ptr [1, 31, 20] 0)] [(b42_23 l i), ([0, 31, 20], .row ((celS (l.getD i Sn.z)).map .tv) false), (b42_1 l i), ([0, 20], .row (flat celS o) false), (b42_3 o), ([0], .row ((celR r).map .tv) false)] 2 (by kernel_rfl) ?_ ?_
          ·exact trivial
          refine at_B [2, 4, 5, 8] [] [] [(1000000, .any), (2, .i r.b), (4, .ptr [2] 0), (5, .ptr [0, 31, 20] 0), (8, .ptr [1, 31, 20] 0)] (b42_60 l i o r) 8 (by kernel_rfl) ?_ ?_
          ·exact trivial
          refine at_seq ?_
          refine at_B [2, 4, 5, 8, 26] [] [] [(1000000, .any), (2, .i r.b), (4, .ptr [2] 0), (5, .ptr [0, 31, 20] 0), (8, .ptr [1, 31, 20] 0), (26, .b ((!decide (r.b = (-1))) && ((decide ((l.getD i Sn.z).b = (-1))) || (decide (r.b < (l.getD i Sn.z).b)))))] (b42_60 l i o r) 21 (by kernel_rfl) ?_ ?_
          ·exact trivial
          refine at_mergel (p := [31, 20]) [(1000000, .any), (4, .ptr [2] 0), (5, .ptr [0, 31, 20] 0), (8, .ptr [1, 31, 20] 0)] [([1, 31, 20], .row ((celF (l.getD i Sn.z).f).map .tv) false), ([0, 31, 20], .row [.i (mx (l.getD i Sn.z).a (l.getD i Sn.z).a), .i (a42_9 l r i), .i (l.getD i Sn.z).f.op, .tv (.str (l.getD i Sn.z).f.nm), .i (l.getD i Sn.z).f.cm, .i (l.getD i Sn.z).f.n, .tv (.sli 5 ((l.getD i Sn.z).f.ks.map encF))] false), ([4, 20], .row ((celS (l.getD i Sn.z)).map .tv) false), ([0, 20], .row (flat celS o) false), ([2], .row [.sl [0, 20] 7 0 o.length] false), ([0], .row ((celR r).map .tv) false)] 24 ?_ ?_
          ·refine at_cond (b := ((!decide (r.b = (-1))) && ((decide ((l.getD i Sn.z).b = (-1))) || (decide (r.b < (l.getD i Sn.z).b))))) rfl rfl (fun hc26_63 => ?_) (fun hc26_63 => ?_)
           ·skip
            refine at_Bl [4, 5, 8] [] [] [(1000000, .any), (4, .ptr [2] 0), (5, .ptr [0, 31, 20] 0), (8, .ptr [1, 31, 20] 0)] [(b42_23 l i), (b42_28 l i r), (b42_1 l i), ([0, 20], .row (flat celS o) false), (b42_3 o), ([0], .row ((celR r).map .tv) false)] 24 (by kernel_rfl) ?_ ?_
            ·exact trivial
            exact gh_merge [4, 5, 8] [[1, 31, 20], [0, 31, 20], [4, 20], [0, 20], [2], [0]] (by kernel_rfl) (Eq.trans (b := [([1, 31, 20], .row ((celF (l.getD i Sn.z).f).map .tv) false), ([0, 31, 20], .row [.i (mx (l.getD i Sn.z).a (l.getD i Sn.z).a), .i r.b, .i (l.getD i Sn.z).f.op, .tv (.str (l.getD i Sn.z).f.nm), .i (l.getD i Sn.z).f.cm, .i (l.getD i Sn.z).f.n, .tv (.sli 5 ((l.getD i Sn.z).f.ks.map encF))] false), ([4, 20], .row ((celS (l.getD i Sn.z)).map .tv) false), ([0, 20], .row (flat celS o) false), ([2], .row [.sl [0, 20] 7 0 o.length] false), ([0], .row ((celR r).map .tv) false)]) (by kernel_rfl) (by simp only [hc26_63, a42_1, a42_2, a42_3, a42_4, a42_5, a42_6, a42_7, a42_8, a42_9, a42_10, a42_11, a42_12, cond_true, cond_false]; try rfl)) (by kernel_rfl)
           ·skip
            refine at_skip ?_
            exact gh_merge [4, 5, 8] [[1, 31, 20], [0, 31, 20], [4, 20], [0, 20], [2], [0]] (by kernel_rfl) (Eq.trans (b := [([1, 31, 20], .row ((celF (l.getD i Sn.z).f).map .tv) false), ([0, 31, 20], .row [.i (mx (l.getD i Sn.z).a (l.getD i Sn.z).a), .i (l.getD i Sn.z).b, .i (l.getD i Sn.z).f.op, .tv (.str (l.getD i Sn.z).f.nm), .i (l.getD i Sn.z).f.cm, .i (l.getD i Sn.z).f.n, .tv (.sli 5 ((l.getD i Sn.z).f.ks.map encF))] false), ([4, 20], .row ((celS (l.getD i Sn.z)).map .tv) false), ([0, 20], .row (flat celS o) false), ([2], .row [.sl [0, 20] 7 0 o.length] false), ([0], .row ((celR r).map .tv) false)]) (by kernel_rfl) (by simp only [hc26_63, a42_1, a42_2, a42_3, a42_4, a42_5, a42_6, a42_7, a42_8, a42_9, a42_10, a42_11, a42_12, cond_true, cond_false]; try rfl)) (by kernel_rfl)
          change AT _ _ _ _
          refine at_B [4, 5] [] [] [(1000000, .any), (4, .ptr [2] 0), (5, .ptr [0, 31, 20] 0)] (b42_53 l i r o) 27 (by kernel_rfl) ?_ ?_
          ·exact trivial
          refine at_B [4, 5, 40] [] [] [(1000000, .any), (4, .ptr [2] 0), (5, .ptr [0, 31, 20] 0), (40, .b ((decide ((a42_9 l r i) = (-1))) || (decide (mx (l.getD i Sn.z).a (l.getD i Sn.z).a < (a42_9 l r i)))))] (b42_53 l i r o) 37 (by kernel_rfl) ?_ ?_
          ·exact trivial
          refine at_cond (b := ((decide ((a42_9 l r i) = (-1))) || (decide (mx (l.getD i Sn.z).a (l.getD i Sn.z).a < (a42_9 l r i))))) rfl rfl (fun h => ?_) (fun h => ?_)
          rotate_left
          ·exact absurd (h.symm.trans hs2) (by decide)
          clear h
          refine at_Bl [] [.std, .std, .eq (.tv (.sli 7 (([(Sn.mk (mx (l.getD i Sn.z).a (l.getD i Sn.z).a) (a42_9 l r i) (l.getD i Sn.z).f)] : List _).map celS))), .eff (.sl [40, 31, 20] 7 0 (o ++ [(Sn.mk (mx (l.getD i Sn.z).a (l.getD i Sn.z).a) (a42_9 l r i) (l.getD i Sn.z).f)]).length) (.row (flat celS (o ++ [(Sn.mk (mx (l.getD i Sn.z).a (l.getD i Sn.z).a) (a42_9 l r i) (l.getD i Sn.z).f)])) false)] [(.tv (.sli 7 [[.int .i64 (mx (l.getD i Sn.z).a (l.getD i Sn.z).a), .int .i64 (a42_9 l r i), .int .i64 (l.getD i Sn.z).f.op, .str (l.getD i Sn.z).f.nm, .int .i64 (l.getD i Sn.z).f.cm, .int .i64 (l.getD i Sn.z).f.n, .sli 5 ((l.getD i Sn.z).f.ks.map encF)]]) : AV) = .tv (.sli 7 (([(Sn.mk (mx (l.getD i Sn.z).a (l.getD i Sn.z).a) (a42_9 l r i) (l.getD i Sn.z).f)] : List _).map celS)), (7 = 7 ∧ 0 = 0 ∧ (flat celS o).length = o.length * 7 ∧ o.length + 1 ≤ 9223372036854775807 ∧ (o.length + 1) * 80 ≤ 140737488355328), (.sl [40, 31, 20] 7 0 (o.length + 1) : AV) = .sl [40, 31, 20] 7 0 (o ++ [(Sn.mk (mx (l.getD i Sn.z).a (l.getD i Sn.z).a) (a42_9 l r i) (l.getD i Sn.z).f)]).length, (.row ((flat celS o) ++ (List.map AV.tv (List.flatten (([(Sn.mk (mx (l.getD i Sn.z).a (l.getD i Sn.z).a) (a42_9 l r i) (l.getD i Sn.z).f)] : List _).map celS)))) false : AO) = .row (flat celS (o ++ [(Sn.mk (mx (l.getD i Sn.z).a (l.getD i Sn.z).a) (a42_9 l r i) (l.getD i Sn.z).f)])) false] [(1000000, .any)] [(b42_26 o l i r), (b42_23 l i), (b42_10 l i r), (b42_1 l i), (b42_25 o l i r), ([0], .row ((celR r).map .tv) false)] 42 (by kernel_rfl) ?_ ?_
          ·exact ⟨rfl, ⟨rfl, rfl, flat_len (sz := 7) (fun _ => rfl) _, by (try simp only [brs, lns] at *); omega, by (try simp only [brs, lns] at *); omega⟩, by simp, congrArg (AO.row · false) (flat_app (rfl)), trivial⟩
          exact fin_in (.inl rfl) [[40, 31, 20], [4, 20], [2], [0]] (.tup []) [(b42_26 o l i r), (b42_23 l i), (b42_10 l i r), (b42_1 l i), (b42_25 o l i r), ([0], .row ((celR r).map .tv) false)] (by kernel_rfl) rfl (by kernel_rfl)
        change AT _ _ _ _
        refine at_Bl [3, 5, 6, 7, 21, 22, 23] [.eq (.i ((i + 1 : Nat) : Int))] [(.i (wr (((i : Nat) : Int) + 1)) : AV) = .i ((i + 1 : Nat) : Int)] [(1000000, .any), (3, .ptr [0] 0), (5, .ptr [2] 0), (6, .fn (.func 70) [.ptr [2] 0]), (7, .i (bif (!(daysP ([r.a, r.b]))) then 0 else r.kd)), (21, .tv (.sli 7 (l.map celS))), (22, .i (((l.map celS).length : Nat) : Int)), (23, .i ((i + 1 : Nat) : Int))] (b42_67 o l i r) 34 (by kernel_rfl) ?_ ?_
        ·exact ⟨succ_av i (by (try simp only [brs, lns] at *); omega), trivial⟩
        refine ⟨rfl, (i + 1, (o ++ [(Sn.mk (mx (l.getD i Sn.z).a (l.getD i Sn.z).a) (a42_9 l r i) (l.getD i Sn.z).f)])), ?_, ?_, ?_⟩
        ·(try dsimp only); omega
        ·(try dsimp only); exact ⟨by omega, by (try simp only [List.length_append, List.length_cons, List.length_nil]); omega, by (rw [← hx3, drop_get l i Sn.z (by omega), List.foldl_cons]; congr 1; simp only [stepP, hc24, hc36, hc45, hc47, hc58, cond_true, cond_false]; exact put_yes hs2)⟩
        ·exact rn_ok [([40, 31, 20], [0, 20]), ([2], [2]), ([0], [0])] [[40, 31, 20]] [3, 5, 6, 7, 21, 22, 23] (⟨clO_flat _ _ _, trivial⟩) (by kernel_rfl)
      ·skip
       refine at_B [3, 5, 6, 7, 9, 21, 22, 23, 37, 69] [] [] [(1000000, .any), (3, .ptr [0] 0), (5, .ptr [2] 0), (6, .fn (.func 70) [.ptr [2] 0]), (7, .i (bif (!(daysP ([r.a, r.b]))) then 0 else r.kd)), (9, .ptr [4, 20] 0), (21, .tv (.sli 7 (l.map celS))), (22, .i (((l.map celS).length : Nat) : Int)), (23, .i ((i : Nat) : Int)), (37, .i (bif (!(daysP ([r.a, r.b]))) then 0 else r.kd)), (69, .b (decide ((bif (!(daysP ([r.a, r.b]))) then 0 else r.kd) = (4 : Int))))] (b42_43 l i o r) 25 (by kernel_rfl) ?_ ?_
       ·exact trivial
       refine at_cond (b := (decide ((bif (!(daysP ([r.a, r.b]))) then 0 else r.kd) = (4 : Int)))) rfl rfl (fun hc69 => ?_) (fun hc69 => ?_)
       ·skip
        cases hs3 : (((decide ((a42_4 l r i) = (-1))) || (decide (mx (l.getD i Sn.z).a (l.getD i Sn.z).a < (a42_4 l r i)))))
        ·have qhs3 := hs3
         (try simp only [brs] at qhs3)
         refine at_B [3, 5, 6, 7, 9, 21, 22, 23] [.std, .std, .std, .std, .std, .std, .std, .std, .retH (.tup []) (b42_43 l i o r)] [CallOK Tryd.prog 70 [agS (l.getD i Sn.z), .i (l.getD i Sn.z).a, .i r.a, agF (l.getD i Sn.z).f, .ptr [2] 0] (b42_43 l i o r) [33, 20] (fun v1 H1 => v1 = (.tup []) ∧ H1 = (b42_43 l i o r))] [(1000000, .any), (3, .ptr [0] 0), (5, .ptr [2] 0), (6, .fn (.func 70) [.ptr [2] 0]), (7, .i (bif (!(daysP ([r.a, r.b]))) then 0 else r.kd)), (9, .ptr [4, 20] 0), (21, .tv (.sli 7 (l.map celS))), (22, .i (((l.map celS).length : Nat) : Int)), (23, .i ((i : Nat) : Int))] (b42_43 l i o r) 34 (by kernel_rfl) ?_ ?_
         ·refine ⟨?_, trivial⟩
          ·refine call_in (fn := Tryd.f70) [] Tryd.func70 rfl (by kernel_rfl) rfl ?_
           change AT _ _ _ ⟨[(0, agS (l.getD i Sn.z)), (1, .i (l.getD i Sn.z).a), (2, .i r.a), (3, agF (l.getD i Sn.z).f), (4, .ptr [2] 0)], (b42_43 l i o r), [33, 20], 0⟩
           refine at_B [1, 2, 4, 5, 8] [] [] [(1000000, .any), (1, .i (l.getD i Sn.z).a), (2, .i r.a), (4, .ptr [2] 0), (5, .ptr [0, 33, 20] 0), (8, .ptr [1, 33, 20] 0)] (b42_51 l i o r) 2 (by kernel_rfl) ?_ ?_
           ·exact trivial
           refine at_B [2, 4, 5, 8] [] [] [(1000000, .any), (2, .i r.a), (4, .ptr [2] 0), (5, .ptr [0, 33, 20] 0), (8, .ptr [1, 33, 20] 0)] (b42_44 l i o r) 8 (by kernel_rfl) ?_ ?_
           ·exact trivial
           refine at_seq ?_
           refine at_B [2, 4, 5, 8, 26] [] [] [(1000000, .any), (2, .i r.a), (4, .ptr [2] 0), (5, .ptr [0, 33, 20] 0), (8, .ptr [1, 33, 20] 0), (26, .b (a42_12 l r i))] (b42_44 l i o r) 21 (by kernel_rfl) ?_ ?_
           ·exact trivial
           refine at_mergel (p := [33, 20]) [(1000000, .any), (4, .ptr [2] 0), (5, .ptr [0, 33, 20] 0), (8, .ptr [1, 33, 20] 0)] [([1, 33, 20], .row ((celF (l.getD i Sn.z).f).map .tv) false), ([0, 33, 20], .row [.i (mx (l.getD i Sn.z).a (l.getD i Sn.z).a), .i (a42_4 l r i), .i (l.getD i Sn.z).f.op, .tv (.str (l.getD i Sn.z).f.nm), .i (l.getD i Sn.z).f.cm, .i (l.getD i Sn.z).f.n, .tv (.sli 5 ((l.getD i Sn.z).f.ks.map encF))] false), ([4, 20], .row ((celS (l.getD i Sn.z)).map .tv) false), ([0, 20], .row (flat celS o) false), ([2], .row [.sl [0, 20] 7 0 o.length] false), ([0], .row ((celR r).map .tv) false)] 24 ?_ ?_
           ·refine at_cond (b := (a42_12 l r i)) rfl rfl (fun hc26_74 => ?_) (fun hc26_74 => ?_)
            ·skip
             refine at_Bl [4, 5, 8] [] [] [(1000000, .any), (4, .ptr [2] 0), (5, .ptr [0, 33, 20] 0), (8, .ptr [1, 33, 20] 0)] [(b42_14 l i), (b42_29 l i r), (b42_1 l i), ([0, 20], .row (flat celS o) false), (b42_3 o), ([0], .row ((celR r).map .tv) false)] 24 (by kernel_rfl) ?_ ?_
             ·exact trivial
             exact gh_merge [4, 5, 8] [[1, 33, 20], [0, 33, 20], [4, 20], [0, 20], [2], [0]] (by kernel_rfl) (Eq.trans (b := [([1, 33, 20], .row ((celF (l.getD i Sn.z).f).map .tv) false), ([0, 33, 20], .row [.i (mx (l.getD i Sn.z).a (l.getD i Sn.z).a), .i r.a, .i (l.getD i Sn.z).f.op, .tv (.str (l.getD i Sn.z).f.nm), .i (l.getD i Sn.z).f.cm, .i (l.getD i Sn.z).f.n, .tv (.sli 5 ((l.getD i Sn.z).f.ks.map encF))] false), ([4, 20], .row ((celS (l.getD i Sn.z)).map .tv) false), ([0, 20], .row (flat celS o) false), ([2], .row [.sl [0, 20] 7 0 o.length] false), ([0], .row ((celR r).map .tv) false)]) (by kernel_rfl) (by simp only [hc26_74, a42_1, a42_2, a42_3, a42_4, a42_5, a42_6, a42_7, a42_8, a42_9, a42_10, a42_11, a42_12, cond_true, cond_false]; try rfl)) (by kernel_rfl)
            ·skip
             refine at_skip ?_
             exact gh_merge [4, 5, 8] [[1, 33, 20], [0, 33, 20], [4, 20], [0, 20], [2], [0]] (by kernel_rfl) (Eq.trans (b := [([1, 33, 20], .row ((celF (l.getD i Sn.z).f).map .tv) false), ([0, 33, 20], .row [.i (mx (l.getD i Sn.z).a (l.getD i Sn.z).a), .i (l.getD i Sn.z).b, .i (l.getD i Sn.z).f.op, .tv (.str (l.getD i Sn.z).f.nm), .i (l.getD i Sn.z).f.cm, .i (l.getD i Sn.z).f.n, .tv (.sli 5 ((l.getD i Sn.z).f.ks.map encF))] false), ([4, 20], .row ((celS (l.getD i Sn.z)).map .tv) false), ([0, 20], .row (flat celS o) false), ([2], .row [.sl [0, 20] 7 0 o.length] false), ([0], .row ((celR r).map .tv) false)]) (by kernel_rfl) (by simp only [hc26_74, a42_1, a42_2, a42_3, a42_4, a42_5, a42_6, a42_7, a42_8, a42_9, a42_10, a42_11, a42_12, cond_true, cond_false]; try rfl)) (by kernel_rfl)
           change AT _ _ _ _
           refine at_B [4, 5] [] [] [(1000000, .any), (4, .ptr [2] 0), (5, .ptr [0, 33, 20] 0)] (b42_54 l i r o) 27 (by kernel_rfl) ?_ ?_
           ·exact trivial
           refine at_B [4, 5, 40] [] [] [(1000000, .any), (4, .ptr [2] 0), (5, .ptr [0, 33, 20] 0), (40, .b ((decide ((a42_4 l r i) = (-1))) || (decide (mx (l.getD i Sn.z).a (l.getD i Sn.z).a < (a42_4 l r i)))))] (b42_54 l i r o) 37 (by kernel_rfl) ?_ ?_
           ·exact trivial
           refine at_cond (b := ((decide ((a42_4 l r i) = (-1))) || (decide (mx (l.getD i Sn.z).a (l.getD i Sn.z).a < (a42_4 l r i))))) rfl rfl (fun h => ?_) (fun h => ?_)
           ·exact absurd (h.symm.trans hs3) (by decide)
           clear h
           refine at_skip ?_
           exact fin_in (.inl rfl) [[4, 20], [0, 20], [2], [0]] (.tup []) (b42_54 l i r o) (by kernel_rfl) rfl (by kernel_rfl)
         cases hs4 : (((decide ((l.getD i Sn.z).b = (-1))) || (decide (mx (l.getD i Sn.z).a r.b < (l.getD i Sn.z).b))))
         ·have qhs4 := hs4
          (try simp only [brs] at qhs4)
          refine at_Bl [3, 5, 6, 7, 21, 22, 23] [.std, .std, .std, .std, .std, .std, .retH (.tup []) (b42_43 l i o r)] [CallOK Tryd.prog 70 [agS (l.getD i Sn.z), .i r.b, .i (-1), agF (l.getD i Sn.z).f, .ptr [2] 0] (b42_43 l i o r) [40, 20] (fun v1 H1 => v1 = (.tup []) ∧ H1 = (b42_43 l i o r))] [(1000000, .any), (3, .ptr [0] 0), (5, .ptr [2] 0), (6, .fn (.func 70) [.ptr [2] 0]), (7, .i (bif (!(daysP ([r.a, r.b]))) then 0 else r.kd)), (21, .tv (.sli 7 (l.map celS))), (22, .i (((l.map celS).length : Nat) : Int)), (23, .i ((i : Nat) : Int))] (b42_43 l i o r) 41 (by kernel_rfl) ?_ ?_
          ·refine ⟨?_, trivial⟩
           ·refine call_in (fn := Tryd.f70) [] Tryd.func70 rfl (by kernel_rfl) rfl ?_
            change AT _ _ _ ⟨[(0, agS (l.getD i Sn.z)), (1, .i r.b), (2, .i (-1)), (3, agF (l.getD i Sn.z).f), (4, .ptr [2] 0)], (b42_43 l i o r), [40, 20], 0⟩
            refine at_B [1, 2, 4, 5, 8] [] [] [(1000000, .any), (1, .i r.b), (2, .i (-1)), (4, .ptr [2] 0), (5, .ptr [0, 40, 20] 0), (8, .ptr [1, 40, 20] 0)] [(b42_17 l i), ([0, 40, 20], .row ((celS (l.getD i Sn.z)).map .tv) false), (b42_1 l i), ([0, 20], .row (flat celS o) false), (b42_3 o), ([0], .row ((celR r).map .tv) false)] 2 (by kernel_rfl) ?_ ?_
            ·exact trivial
            refine at_B [2, 4, 5, 8] [] [] [(1000000, .any), (2, .i (-1)), (4, .ptr [2] 0), (5, .ptr [0, 40, 20] 0), (8, .ptr [1, 40, 20] 0)] (b42_45 l i r o) 8 (by kernel_rfl) ?_ ?_
            ·exact trivial
            refine at_seq ?_
            refine at_B [2, 4, 5, 8, 26] [] [] [(1000000, .any), (2, .i (-1)), (4, .ptr [2] 0), (5, .ptr [0, 40, 20] 0), (8, .ptr [1, 40, 20] 0), (26, .b false)] (b42_45 l i r o) 21 (by kernel_rfl) ?_ ?_
            ·exact trivial
            refine at_cond (b := false) rfl rfl (fun h => ?_) (fun h => ?_)
            ·cases h
            clear h
            refine at_skip ?_
            change AT _ _ _ _
            refine at_B [4, 5] [] [] [(1000000, .any), (4, .ptr [2] 0), (5, .ptr [0, 40, 20] 0)] (b42_45 l i r o) 24 (by kernel_rfl) ?_ ?_
            ·exact trivial
            refine at_B [4, 5, 40] [] [] [(1000000, .any), (4, .ptr [2] 0), (5, .ptr [0, 40, 20] 0), (40, .b ((decide ((l.getD i Sn.z).b = (-1))) || (decide (mx (l.getD i Sn.z).a r.b < (l.getD i Sn.z).b))))] (b42_45 l i r o) 34 (by kernel_rfl) ?_ ?_
            ·exact trivial
            refine at_cond (b := ((decide ((l.getD i Sn.z).b = (-1))) || (decide (mx (l.getD i Sn.z).a r.b < (l.getD i Sn.z).b)))) rfl rfl (fun h => ?_) (fun h => ?_)
            ·exact absurd (h.symm.trans hs4) (by decide)
            clear h
            refine at_skip ?_
            exact fin_in (.inl rfl) [[4, 20], [0, 20], [2], [0]] (.tup []) (b42_45 l i r o) (by kernel_rfl) rfl (by kernel_rfl)
          change AT _ _ _ _
          refine at_Bl [3, 5, 6, 7, 21, 22, 23] [.eq (.i ((i + 1 : Nat) : Int))] [(.i (wr (((i : Nat) : Int) + 1)) : AV) = .i ((i + 1 : Nat) : Int)] [(1000000, .any), (3, .ptr [0] 0), (5, .ptr [2] 0), (6, .fn (.func 70) [.ptr [2] 0]), (7, .i (bif (!(daysP ([r.a, r.b]))) then 0 else r.kd)), (21, .tv (.sli 7 (l.map celS))), (22, .i (((l.map celS).length : Nat) : Int)), (23, .i ((i + 1 : Nat) : Int))] (b42_43 l i o r) 43 (by kernel_rfl) ?_ ?_
          ·exact ⟨succ_av i (by (try simp only [brs, lns] at *); omega), trivial⟩
          refine ⟨rfl, (i + 1, o), ?_, ?_, ?_⟩
          ·(try dsimp only); omega
          ·(try dsimp only); exact ⟨by omega, by (try simp only [List.length_append, List.length_cons, List.length_nil]); omega, by (rw [← hx3, drop_get l i Sn.z (by omega), List.foldl_cons]; congr 1; simp only [stepP, hc24, hc36, hc45, hc47, hc58, hc69, cond_true, cond_false]; refine put_2 (put_no hs3) ?_; first | exact put_no hs4 | (show _ = putS _ _; rw [← put_no hs4]; rfl))⟩
          ·exact rn_ok [([0, 20], [0, 20]), ([2], [2]), ([0], [0])] [[0, 20]] [3, 5, 6, 7, 21, 22, 23] (⟨clO_flat _ _ _, trivial⟩) (by kernel_rfl)
         ·have qhs4 := hs4
          (try simp only [brs] at qhs4)
          refine at_Bl [3, 5, 6, 7, 21, 22, 23] [.std, .std, .std, .std, .std, .std, .retH (.tup []) (b42_68 o l r i)] [CallOK Tryd.prog 70 [agS (l.getD i Sn.z), .i r.b, .i (-1), agF (l.getD i Sn.z).f, .ptr [2] 0] (b42_43 l i o r) [40, 20] (fun v1 H1 => v1 = (.tup []) ∧ H1 = (b42_68 o l r i))] [(1000000, .any), (3, .ptr [0] 0), (5, .ptr [2] 0), (6, .fn (.func 70) [.ptr [2] 0]), (7, .i (bif (!(daysP ([r.a, r.b]))) then 0 else r.kd)), (21, .tv (.sli 7 (l.map celS))), (22, .i (((l.map celS).length : Nat) : Int)), (23, .i ((i : Nat) : Int))] (b42_68 o l r i) 41 (by kernel_rfl) ?_ ?_
          ·refine ⟨?_, trivial⟩
           ·refine call_in (fn := Tryd.f70) [] Tryd.func70 rfl (by kernel_rfl) rfl ?_
            change AT _ _ _ ⟨[(0, agS (l.getD i Sn.z)), (1, .i r.b), (2, .i (-1)), (3, agF (l.getD i Sn.z).f), (4, .ptr [2] 0)], (b42_43 l i o r), [40, 20], 0⟩
            refine at_B [1, 2, 4, 5, 8] [] [] [(1000000, .any), (1, .i r.b), (2, .i (-1)), (4, .ptr [2] 0), (5, .ptr [0, 40, 20] 0), (8, .ptr [1, 40, 20] 0)] [(b42_17 l i), ([0, 40, 20], .row ((celS (l.getD i Sn.z)).map .tv) false), (b42_1 l i), ([0, 20], .row (flat celS o) false), (b42_3 o), ([0], .row ((celR r).map .tv) false)] 2 (by kernel_rfl) ?_ ?_
            ·exact trivial
            refine at_B [2, 4, 5, 8] [] [] [(1000000, .any), (2, .i (-1)), (4, .ptr [2] 0), (5, .ptr [0, 40, 20] 0), (8, .ptr [1, 40, 20] 0)] (b42_45 l i r o) 8 (by kernel_rfl) ?_ ?_
            ·exact trivial
            refine at_seq ?_
            refine at_B [2, 4, 5, 8, 26] [] [] [(1000000, .any), (2, .i (-1)), (4, .ptr [2] 0), (5, .ptr [0, 40, 20] 0), (8, .ptr [1, 40, 20] 0), (26, .b false)] (b42_45 l i r o) 21 (by kernel_rfl) ?_ ?_
            ·exact trivial
            refine at_cond (b := false) rfl rfl (fun h => ?_) (fun h => ?_)
            ·cases h
            clear h
            refine at_skip ?_
            change AT _ _ _ _
            refine at_B [4, 5] [] [] [(1000000, .any), (4, .ptr [2] 0), (5, .ptr [0, 40, 20] 0)] (b42_45 l i r o) 24 (by kernel_rfl) ?_ ?_
            ·exact trivial
            refine at_B [4, 5, 40] [] [] [(1000000, .any), (4, .ptr [2] 0), (5, .ptr [0, 40, 20] 0), (40, .b ((decide ((l.getD i Sn.z).b = (-1))) || (decide (mx (l.getD i Sn.z).a r.b < (l.getD i Sn.z).b))))] (b42_45 l i r o) 34 (by kernel_rfl) ?_ ?_
            ·exact trivial
            refine at_cond (b := ((decide ((l.getD i Sn.z).b = (-1))) || (decide (mx (l.getD i Sn.z).a r.b < (l.getD i Sn.z).b)))) rfl rfl (fun h => ?_) (fun h => ?_)
            rotate_left
            ·exact absurd (h.symm.trans hs4) (by decide)
            clear h
            refine at_Bl [] [.std, .std, .eq (.tv (.sli 7 (([(a42_10 l r i)] : List _).map celS))), .eff (.sl [37, 40, 20] 7 0 (o ++ [(a42_10 l r i)]).length) (.row (flat celS (o ++ [(a42_10 l r i)])) false)] [(.tv (.sli 7 [[.int .i64 (mx (l.getD i Sn.z).a r.b), .int .i64 (l.getD i Sn.z).b, .int .i64 (l.getD i Sn.z).f.op, .str (l.getD i Sn.z).f.nm, .int .i64 (l.getD i Sn.z).f.cm, .int .i64 (l.getD i Sn.z).f.n, .sli 5 ((l.getD i Sn.z).f.ks.map encF)]]) : AV) = .tv (.sli 7 (([(a42_10 l r i)] : List _).map celS)), (7 = 7 ∧ 0 = 0 ∧ (flat celS o).length = o.length * 7 ∧ o.length + 1 ≤ 9223372036854775807 ∧ (o.length + 1) * 80 ≤ 140737488355328), (.sl [37, 40, 20] 7 0 (o.length + 1) : AV) = .sl [37, 40, 20] 7 0 (o ++ [(a42_10 l r i)]).length, (.row ((flat celS o) ++ (List.map AV.tv (List.flatten (([(a42_10 l r i)] : List _).map celS)))) false : AO) = .row (flat celS (o ++ [(a42_10 l r i)])) false] [(1000000, .any)] [(b42_39 o l r i), (b42_17 l i), (b42_4 l i r), (b42_1 l i), (b42_35 o l r i), ([0], .row ((celR r).map .tv) false)] 39 (by kernel_rfl) ?_ ?_
            ·exact ⟨rfl, ⟨rfl, rfl, flat_len (sz := 7) (fun _ => rfl) _, by (try simp only [brs, lns] at *); omega, by (try simp only [brs, lns] at *); omega⟩, by simp, congrArg (AO.row · false) (flat_app (rfl)), trivial⟩
            exact fin_in (.inl rfl) [[37, 40, 20], [4, 20], [2], [0]] (.tup []) [(b42_39 o l r i), (b42_17 l i), (b42_4 l i r), (b42_1 l i), (b42_35 o l r i), ([0], .row ((celR r).map .tv) false)] (by kernel_rfl) rfl (by kernel_rfl)
          change AT _ _ _ _
          refine at_Bl [3, 5, 6, 7, 21, 22, 23] [.eq (.i ((i + 1 : Nat) : Int))] [(.i (wr (((i : Nat) : Int) + 1)) : AV) = .i ((i + 1 : Nat) : Int)] [(1000000, .any), (3, .ptr [0] 0), (5, .ptr [2] 0), (6, .fn (.func 70) [.ptr [2] 0]), (7, .i (bif (!(daysP ([r.a, r.b]))) then 0 else r.kd)), (21, .tv (.sli 7 (l.map celS))), (22, .i (((l.map celS).length : Nat) : Int)), (23, .i ((i + 1 : Nat) : Int))] (b42_68 o l r i) 43 (by kernel_rfl) ?_ ?_
          ·exact ⟨succ_av i (by (try simp only [brs, lns] at *); omega), trivial⟩
          refine ⟨rfl, (i + 1, (o ++ [(a42_10 l r i)])), ?_, ?_, ?_⟩
          ·(try dsimp only); omega
          ·(try dsimp only); exact ⟨by omega, by (try simp only [List.length_append, List.length_cons, List.length_nil]); omega, by (rw [← hx3, drop_get l i Sn.z (by omega), List.foldl_cons]; congr 1; simp only [stepP, hc24, hc36, hc45, hc47, hc58, hc69, cond_true, cond_false]; refine put_2 (put_no hs3) ?_; first | exact put_yes hs4 | (show _ = putS _ _; rw [← put_yes hs4]; rfl))⟩
          ·exact rn_ok [([37, 40, 20], [0, 20]), ([2], [2]), ([0], [0])] [[37, 40, 20]] [3, 5, 6, 7, 21, 22, 23] (⟨clO_flat _ _ _, trivial⟩) (by kernel_rfl)
        ·have qhs3 := hs3
         (try simp only [brs] at qhs3)
         refine at_B [3, 5, 6, 7, 9, 21, 22, 23] [.std, .std, .std, .std, .std, .std, .std, .std, .retH (.tup []) (b42_47 o l r i)] [CallOK Tryd.prog 70 [agS (l.getD i Sn.z), .i (l.getD i Sn.z).a, .i r.a, agF (l.getD i Sn.z).f, .ptr [2] 0] (b42_43 l i o r) [33, 20] (fun v1 H1 => v1 = (.tup []) ∧ H1 = (b42_47 o l r i))] [(1000000, .any), (3, .ptr [0] 0), (5, .ptr [2] 0), (6, .fn (.func 70) [.ptr [2] 0]), (7, .i (bif (!(daysP ([r.a, r.b]))) then 0 else r.kd)), (9, .ptr [4, 20] 0), (21, .tv (.sli 7 (l.map celS))), (22, .i (((l.map celS).length : Nat) : Int)), (23, .i ((i : Nat) : Int))] (b42_47 o l r i) 34 (by kernel_rfl) ?_ ?_
         ·refine ⟨?_, trivial⟩
          ·refine call_in (fn := Tryd.f70) [] Tryd.func70 rfl (by kernel_rfl) rfl ?_
           change AT _ _ _ ⟨[(0, agS (l.getD i Sn.z)), (1, .i (l.getD i Sn.z).a), (2, .i r.a), (3, agF (l.getD i Sn.z).f), (4, .ptr [2] 0)], (b42_43 l i o r), [33, 20], 0⟩
           refine at_B [1, 2, 4, 5, 8] [] [] [(1000000, .any), (1, .i (l.getD i Sn.z).a), (2, .i r.a), (4, .ptr [2] 0), (5, .ptr [0, 33, 20] 0), (8, .ptr [1, 33, 20] 0)] (b42_51 l i o r) 2 (by kernel_rfl) ?_ ?_
           ·exact trivial
           refine at_B [2, 4, 5, 8] [] [] [(1000000, .any), (2, .i r.a), (4, .ptr [2] 0), (5, .ptr [0, 33, 20] 0), (8, .ptr [1, 33, 20] 0)] (b42_44 l i o r) 8 (by kernel_rfl) ?_ ?_
           ·exact trivial
           refine at_seq ?_
           refine at_B [2, 4, 5, 8, 26] [] [] [(1000000, .any), (2, .i r.a), (4, .ptr [2] 0), (5, .ptr [0, 33, 20] 0), (8, .ptr [1, 33, 20] 0), (26, .b (a42_12 l r i))] (b42_44 l i o r) 21 (by kernel_rfl) ?_ ?_
           ·exact trivial
           refine at_mergel (p := [33, 20]) [(1000000, .any), (4, .ptr [2] 0), (5, .ptr [0, 33, 20] 0), (8, .ptr [1, 33, 20] 0)] [([1, 33, 20], .row ((celF (l.getD i Sn.z).f).map .tv) false), ([0, 33, 20], .row [.i (mx (l.getD i Sn.z).a (l.getD i Sn.z).a), .i (a42_4 l r i), .i (l.getD i Sn.z).f.op, .tv (.str (l.getD i Sn.z).f.nm), .i (l.getD i Sn.z).f.cm, .i (l.getD i Sn.z).f.n, .tv (.sli 5 ((l.getD i Sn.z).f.ks.map encF))] false), ([4, 20], .row ((celS (l.getD i Sn.z)).map .tv) false), ([0, 20], .row (flat celS o) false), ([2], .row [.sl [0, 20] 7 0 o.length] false), ([0], .row ((celR r).map .tv) false)] 24 ?_ ?_
           ·refine at_cond (b := (a42_12 l r i)) rfl rfl (fun hc26_78 => ?_) (fun hc26_78 => ?_)
            ·skip
             refine at_Bl [4, 5, 8] [] [] [(1000000, .any), (4, .ptr [2] 0), (5, .ptr [0, 33, 20] 0), (8, .ptr [1, 33, 20] 0)] [(b42_14 l i), (b42_29 l i r), (b42_1 l i), ([0, 20], .row (flat celS o) false), (b42_3 o), ([0], .row ((celR r).map .tv) false)] 24 (by kernel_rfl) ?_ ?_
             ·exact trivial
             exact gh_merge [4, 5, 8] [[1, 33, 20], [0, 33, 20], [4, 20], [0, 20], [2], [0]] (by kernel_rfl) (Eq.trans (b := [([1, 33, 20], .row ((celF (l.getD i Sn.z).f).map .tv) false), ([0, 33, 20], .row [.i (mx (l.getD i Sn.z).a (l.getD i Sn.z).a), .i r.a, .i (l.getD i Sn.z).f.op, .tv (.str (l.getD i Sn.z).f.nm), .i (l.getD i Sn.z).f.cm, .i (l.getD i Sn.z).f.n, .tv (.sli 5 ((l.getD i Sn.z).f.ks.map encF))] false), ([4, 20], .row ((celS (l.getD i Sn.z)).map .tv) false), ([0, 20], .row (flat celS o) false), ([2], .row [.sl [0, 20] 7 0 o.length] false), ([0], .row ((celR r).map .tv) false)]) (by kernel_rfl) (by simp only [hc26_78, a42_1, a42_2, a42_3, a42_4, a42_5, a42_6, a42_7, a42_8, a42_9, a42_10, a42_11, a42_12, cond_true, cond_false]; try rfl)) (by kernel_rfl)
            ·skip
             refine at_skip ?_
             exact gh_merge [4, 5, 8] [[1, 33, 20], [0, 33, 20], [4, 20], [0, 20], [2], [0]] (by kernel_rfl) (Eq.trans (b := [([1, 33, 20], .row ((celF (l.getD i Sn.z).f).map .tv) false), ([0, 33, 20], .row [.i (mx (l.getD i Sn.z).a (l.getD i Sn.z).a), .i (l.getD i Sn.z).b, .i (l.getD i Sn.z).f.op, .tv (.str (l.getD i Sn.z).f.nm), .i (l.getD i Sn.z).f.cm, .i (l.getD i Sn.z).f.n, .tv (.sli 5 ((l.getD i Sn.z).f.ks.map encF))] false), ([4, 20], .row ((celS (l.getD i Sn.z)).map .tv) false), ([0, 20], .row (flat celS o) false), ([2], .row [.sl [0, 20] 7 0 o.length] false), ([0], .row ((celR r).map .tv) false)]) (by kernel_rfl) (by simp only [hc26_78, a42_1, a42_2, a42_3, a42_4, a42_5, a42_6, a42_7, a42_8, a42_9, a42_10, a42_11, a42_12, cond_true, cond_false]; try rfl)) (by kernel_rfl)
           change AT _ _ _ _
           refine at_B [4, 5] [] [] [(1000000, .any), (4, .ptr [2] 0), (5, .ptr [0, 33, 20] 0)] (b42_54 l i r o) 27 (by kernel_rfl) ?_ ?_
           ·exact trivial
           refine at_B [4, 5, 40] [] [] [(1000000, .any), (4, .ptr [2] 0), (5, .ptr [0, 33, 20] 0), (40, .b ((decide ((a42_4 l r i) = (-1))) || (decide (mx (l.getD i Sn.z).a (l.getD i Sn.z).a < (a42_4 l r i)))))] (b42_54 l i r o) 37 (by kernel_rfl) ?_ ?_
           ·exact trivial
           refine at_cond (b := ((decide ((a42_4 l r i) = (-1))) || (decide (mx (l.getD i Sn.z).a (l.getD i Sn.z).a < (a42_4 l r i))))) rfl rfl (fun h => ?_) (fun h => ?_)
           rotate_left
           ·exact absurd (h.symm.trans hs3) (by decide)
           clear h
           refine at_Bl [] [.std, .std, .eq (.tv (.sli 7 (([(a42_1 l r i)] : List _).map celS))), .eff (.sl [40, 33, 20] 7 0 (o ++ [(a42_1 l r i)]).length) (.row (flat celS (o ++ [(a42_1 l r i)])) false)] [(.tv (.sli 7 [[.int .i64 (mx (l.getD i Sn.z).a (l.getD i Sn.z).a), .int .i64 (a42_4 l r i), .int .i64 (l.getD i Sn.z).f.op, .str (l.getD i Sn.z).f.nm, .int .i64 (l.getD i Sn.z).f.cm, .int .i64 (l.getD i Sn.z).f.n, .sli 5 ((l.getD i Sn.z).f.ks.map encF)]]) : AV) = .tv (.sli 7 (([(a42_1 l r i)] : List _).map celS)), (7 = 7 ∧ 0 = 0 ∧ (flat celS o).length = o.length * 7 ∧ o.length + 1 ≤ 9223372036854775807 ∧ (o.length + 1) * 80 ≤ 140737488355328), (.sl [40, 33, 20] 7 0 (o.length + 1) : AV) = .sl [40, 33, 20] 7 0 (o ++ [(a42_1 l r i)]).length, (.row ((flat celS o) ++ (List.map AV.tv (List.flatten (([(a42_1 l r i)] : List _).map celS)))) false : AO) = .row (flat celS (o ++ [(a42_1 l r i)])) false] [(1000000, .any)] [(b42_18 o l r i), (b42_14 l i), (b42_11 l i r), (b42_1 l i), (b42_15 o l r i), ([0], .row ((celR r).map .tv) false)] 42 (by kernel_rfl) ?_ ?_
           ·exact ⟨rfl, ⟨rfl, rfl, flat_len (sz := 7) (fun _ => rfl) _, by (try simp only [brs, lns] at *); omega, by (try simp only [brs, lns] at *); omega⟩, by simp, congrArg (AO.row · false) (flat_app (rfl)), trivial⟩
           exact fin_in (.inl rfl) [[40, 33, 20], [4, 20], [2], [0]] (.tup []) [(b42_18 o l r i), (b42_14 l i), (b42_11 l i r), (b42_1 l i), (b42_15 o l r i), ([0], .row ((celR r).map .tv) false)] (by kernel_rfl) rfl (by kernel_rfl)
         cases hs5 : (((decide ((l.getD i Sn.z).b = (-1))) || (decide (mx (l.getD i Sn.z).a r.b < (l.getD i Sn.z).b))))
         ·have qhs5 := hs5
          (try simp only [brs] at qhs5)
          refine at_Bl [3, 5, 6, 7, 21, 22, 23] [.std, .std, .std, .std, .std, .std, .retH (.tup []) (b42_47 o l r i)] [CallOK Tryd.prog 70 [agS (l.getD i Sn.z), .i r.b, .i (-1), agF (l.getD i Sn.z).f, .ptr [2] 0] (b42_47 o l r i) [40, 20] (fun v1 H1 => v1 = (.tup []) ∧ H1 = (b42_47 o l r i))] [(1000000, .any), (3, .ptr [0] 0), (5, .ptr [2] 0), (6, .fn (.func 70) [.ptr [2] 0]), (7, .i (bif (!(daysP ([r.a, r.b]))) then 0 else r.kd)), (21, .tv (.sli 7 (l.map celS))), (22, .i (((l.map celS).length : Nat) : Int)), (23, .i ((i : Nat) : Int))] (b42_47 o l r i) 41 (by kernel_rfl) ?_ ?_
          ·refine ⟨?_, trivial⟩
           ·refine call_in (fn := Tryd.f70) [] Tryd.func70 rfl (by kernel_rfl) rfl ?_
            change AT _ _ _ ⟨[(0, agS (l.getD i Sn.z)), (1, .i r.b), (2, .i (-1)), (3, agF (l.getD i Sn.z).f), (4, .ptr [2] 0)], (b42_47 o l r i), [40, 20], 0⟩
            refine at_B [1, 2, 4, 5, 8] [] [] [(1000000, .any), (1, .i r.b), (2, .i (-1)), (4, .ptr [2] 0), (5, .ptr [0, 40, 20] 0), (8, .ptr [1, 40, 20] 0)] [(b42_17 l i), ([0, 40, 20], .row ((celS (l.getD i Sn.z)).map .tv) false), (b42_18 o l r i), (b42_1 l i), (b42_15 o l r i), ([0], .row ((celR r).map .tv) false)] 2 (by kernel_rfl) ?_ ?_
            ·exact trivial
            refine at_B [2, 4, 5, 8] [] [] [(1000000, .any), (2, .i (-1)), (4, .ptr [2] 0), (5, .ptr [0, 40, 20] 0), (8, .ptr [1, 40, 20] 0)] (b42_46 l i r o) 8 (by kernel_rfl) ?_ ?_
            ·exact trivial
            refine at_seq ?_
            refine at_B [2, 4, 5, 8, 26] [] [] [(1000000, .any), (2, .i (-1)), (4, .ptr [2] 0), (5, .ptr [0, 40, 20] 0), (8, .ptr [1, 40, 20] 0), (26, .b false)] (b42_46 l i r o) 21 (by kernel_rfl) ?_ ?_
            ·exact trivial
            refine at_cond (b := false) rfl rfl (fun h => ?_) (fun h => ?_)
            ·cases h
            clear h
            refine at_skip ?_
            change AT _ _ _ _
            refine at_B [4, 5] [] [] [(1000000, .any), (4, .ptr [2] 0), (5, .ptr [0, 40, 20] 0)] (b42_46 l i r o) 24 (by kernel_rfl) ?_ ?_
            ·exact trivial
            refine at_B [4, 5, 40] [] [] [(1000000, .any), (4, .ptr [2] 0), (5, .ptr [0, 40, 20] 0), (40, .b ((decide ((l.getD i Sn.z).b = (-1))) || (decide (mx (l.getD i Sn.z).a r.b < (l.getD i Sn.z).b))))] (b42_46 l i r o) 34 (by kernel_rfl) ?_ ?_
            ·exact trivial
            refine at_cond (b := ((decide ((l.getD i Sn.z).b = (-1))) || (decide (mx (l.getD i Sn.z).a r.b < (l.getD i Sn.z).b)))) rfl rfl (fun h => ?_) (fun h => ?_)
            ·exact absurd (h.symm.trans hs5) (by decide)
            clear h
            refine at_skip ?_
            exact fin_in (.inl rfl) [[40, 33, 20], [4, 20], [2], [0]] (.tup []) (b42_46 l i r o) (by kernel_rfl) rfl (by kernel_rfl)
          change AT _ _ _ _
          refine at_Bl [3, 5, 6, 7, 21, 22, 23] [.eq (.i ((i + 1 : Nat) : Int))] [(.i (wr (((i : Nat) : Int) + 1)) : AV) = .i ((i + 1 : Nat) : Int)] [(1000000, .any), (3, .ptr [0] 0), (5, .ptr [2] 0), (6, .fn (.func 70) [.ptr [2] 0]), (7, .i (bif (!(daysP ([r.a, r.b]))) then 0 else r.kd)), (21, .tv (.sli 7 (l.map celS))), (22, .i (((l.map celS).length : Nat) : Int)), (23, .i ((i + 1 : Nat) : Int))] (b42_47 o l r i) 43 (by kernel_rfl) ?_ ?_
          ·exact ⟨succ_av i (by (try simp only [brs, lns] at *); omega), trivial⟩
          refine ⟨rfl, (i + 1, (o ++ [(a42_1 l r i)])), ?_, ?_, ?_⟩
          ·(try dsimp only); omega
          ·(try dsimp only); exact ⟨by omega, by (try simp only [List.length_append, List.length_cons, List.length_nil]); omega, by (rw [← hx3, drop_get l i Sn.z (by omega), List.foldl_cons]; congr 1; simp only [stepP, hc24, hc36, hc45, hc47, hc58, hc69, cond_true, cond_false]; refine put_2 (put_yes hs3) ?_; first | exact put_no hs5 | (show _ = putS _ _; rw [← put_no hs5]; rfl))⟩
          ·exact rn_ok [([40, 33, 20], [0, 20]), ([2], [2]), ([0], [0])] [[40, 33, 20]] [3, 5, 6, 7, 21, 22, 23] (⟨clO_flat _ _ _, trivial⟩) (by kernel_rfl)
         ·have qhs5 := hs5
          (try simp only [brs] at qhs5)
          refine at_Bl [3, 5, 6, 7, 21, 22, 23] [.std, .std, .std, .std, .std, .std, .retH (.tup []) (b42_69 o l r i)] [CallOK Tryd.prog 70 [agS (l.getD i Sn.z), .i r.b, .i (-1), agF (l.getD i Sn.z).f, .ptr [2] 0] (b42_47 o l r i) [40, 20] (fun v1 H1 => v1 = (.tup []) ∧ H1 = (b42_69 o l r i))] [(1000000, .any), (3, .ptr [0] 0), (5, .ptr [2] 0), (6, .fn (.func 70) [.ptr [2] 0]), (7, .i (bif (!(daysP ([r.a, r.b]))) then 0 else r.kd)), (21, .tv (.sli 7 (l.map celS))), (22, .i (((l.map celS).length : Nat) : Int)), (23, .i ((i : Nat) : Int))] (b42_69 o l r i) 41 (by kernel_rfl) ?_ ?_
          ·refine ⟨?_, trivial⟩
           ·refine call_in (fn := Tryd.f70) [] Tryd.func70 rfl (by kernel_rfl) rfl ?_
            change AT _ _ _ ⟨[(0, agS (l.getD i Sn.z)), (1, .i r.b), (2, .i (-1)), (3, agF (l.getD i Sn.z).f), (4, .ptr [2] 0)], (b42_47 o l r i), [40, 20], 0⟩
            refine at_B [1, 2, 4, 5, 8] [] [] [(1000000, .any), (1, .i r.b), (2, .i (-1)), (4, .ptr [2] 0), (5, .ptr [0, 40, 20] 0), (8, .ptr [1, 40, 20] 0)] [(b42_17 l i), ([0, 40, 20], .row ((celS (l.getD i Sn.z)).map .tv) false), (b42_18 o l r i), (b42_1 l i), (b42_15 o l r i), ([0], .row ((celR r).map .tv) false)] 2 (by kernel_rfl) ?_ ?_
            ·exact trivial
            refine at_B [2, 4, 5, 8] [] [] [(1000000, .any), (2, .i (-1)), (4, .ptr [2] 0), (5, .ptr [0, 40, 20] 0), (8, .ptr [1, 40, 20] 0)] (b42_46 l i r o) 8 (by kernel_rfl) ?_ ?_
            ·exact trivial
            refine at_seq ?_
            refine at_B [2, 4, 5, 8, 26] [] [] [(1000000, .any), (2, .i (-1)), (4, .ptr [2] 0), (5, .ptr [0, 40, 20] 0), (8, .ptr [1, 40, 20] 0), (26, .b false)] (b42_46 l i r o) 21 (by kernel_rfl) ?_ ?_
            ·exact trivial
            refine at_cond (b := false) rfl rfl (fun h => ?_) (fun h => ?_)
            ·cases h
            clear h
            refine at_skip ?_
            change AT _ _ _ _
            refine at_B [4, 5] [] [] [(1000000, .any), (4, .ptr [2] 0), (5, .ptr [0, 40, 20] 0)] (b42_46 l i r o) 24 (by kernel_rfl) ?_ ?_
            ·exact trivial
            refine at_B [4, 5, 40] [] [] [(1000000, .any), (4, .ptr [2] 0), (5, .ptr [0, 40, 20] 0), (40, .b ((decide ((l.getD i Sn.z).b = (-1))) || (decide (mx (l.getD i Sn.z).a r.b < (l.getD i Sn.z).b))))] (b42_46 l i r o) 34 (by kernel_rfl) ?_ ?_
            ·exact trivial
            refine at_cond (b := ((decide ((l.getD i Sn.z).b = (-1))) || (decide (mx (l.getD i Sn.z).a r.b < (l.getD i Sn.z).b)))) rfl rfl (fun h => ?_) (fun h => ?_)
            rotate_left
            ·exact absurd (h.symm.trans hs5) (by decide)
            clear h
            refine at_Bl [] [.std, .std, .eq (.tv (.sli 7 (([(a42_10 l r i)] : List _).map celS))), .eff (.sl [37, 40, 20] 7 0 ((o ++ [(a42_1 l r i)]) ++ [(a42_10 l r i)]).length) (.row (flat celS ((o ++ [(a42_1 l r i)]) ++ [(a42_10 l r i)])) false)] [(.tv (.sli 7 [[.int .i64 (mx (l.getD i Sn.z).a r.b), .int .i64 (l.getD i Sn.z).b, .int .i64 (l.getD i Sn.z).f.op, .str (l.getD i Sn.z).f.nm, .int .i64 (l.getD i Sn.z).f.cm, .int .i64 (l.getD i Sn.z).f.n, .sli 5 ((l.getD i Sn.z).f.ks.map encF)]]) : AV) = .tv (.sli 7 (([(a42_10 l r i)] : List _).map celS)), (7 = 7 ∧ 0 = 0 ∧ (flat celS (o ++ [(a42_1 l r i)])).length = (o ++ [(a42_1 l r i)]).length * 7 ∧ (o ++ [(a42_1 l r i)]).length + 1 ≤ 9223372036854775807 ∧ ((o ++ [(a42_1 l r i)]).length + 1) * 80 ≤ 140737488355328), (.sl [37, 40, 20] 7 0 ((o ++ [(a42_1 l r i)]).length + 1) : AV) = .sl [37, 40, 20] 7 0 ((o ++ [(a42_1 l r i)]) ++ [(a42_10 l r i)]).length, (.row ((flat celS (o ++ [(a42_1 l r i)])) ++ (List.map AV.tv (List.flatten (([(a42_10 l r i)] : List _).map celS)))) false : AO) = .row (flat celS ((o ++ [(a42_1 l r i)]) ++ [(a42_10 l r i)])) false] [(1000000, .any)] [(b42_33 o l r i), (b42_17 l i), (b42_4 l i r), (b42_1 l i), (b42_31 o l r i), ([0], .row ((celR r).map .tv) false)] 39 (by kernel_rfl) ?_ ?_
            ·exact ⟨rfl, ⟨rfl, rfl, flat_len (sz := 7) (fun _ => rfl) _, by (try simp only [brs, lns] at *); omega, by (try simp only [brs, lns] at *); omega⟩, by simp, congrArg (AO.row · false) (flat_app (rfl)), trivial⟩
            exact fin_in (.inl rfl) [[37, 40, 20], [4, 20], [2], [0]] (.tup []) [(b42_33 o l r i), (b42_17 l i), (b42_4 l i r), (b42_1 l i), (b42_31 o l r i), ([0], .row ((celR r).map .tv) false)] (by kernel_rfl) rfl (by kernel_rfl)
          change AT _ _ _ _
          refine at_Bl [3, 5, 6, 7, 21, 22, 23] [.eq (.i ((i + 1 : Nat) : Int))] [(.i (wr (((i : Nat) : Int) + 1)) : AV) = .i ((i + 1 : Nat) : Int)] [(1000000, .any), (3, .ptr [0] 0), (5, .ptr [2] 0), (6, .fn (.func 70) [.ptr [2] 0]), (7, .i (bif (!(daysP ([r.a, r.b]))) then 0 else r.kd)), (21, .tv (.sli 7 (l.map celS))), (22, .i (((l.map celS).length : Nat) : Int)), (23, .i ((i + 1 : Nat) : Int))] (b42_69 o l r i) 43 (by kernel_rfl) ?_ ?_
          ·exact ⟨succ_av i (by (try simp only [brs, lns] at *); omega), trivial⟩
          refine ⟨rfl, (i + 1, ((o ++ [(a42_1 l r i)]) ++ [(a42_10 l r i)])), ?_, ?_, ?_⟩
          ·(try dsimp only); omega
          ·(try dsimp only); exact ⟨by omega, by (try simp only [List.length_append, List.length_cons, List.length_nil]); omega, by (rw [← hx3, drop_get l i Sn.z (by omega), List.foldl_cons]; congr 1; simp only [stepP, hc24, hc36, hc45, hc47, hc58, hc69, cond_true, cond_false]; refine put_2 (put_yes hs3) ?_; first | exact put_yes hs5 | (show _ = putS _ _; rw [← put_yes hs5]; rfl))⟩
          ·exact rn_ok [([37, 40, 20], [0, 20]), ([2], [2]), ([0], [0])] [[37, 40, 20]] [3, 5, 6, 7, 21, 22, 23] (⟨clO_flat _ _ _, trivial⟩) (by kernel_rfl)
       ·skip
        refine at_B [3, 5, 6, 7, 9, 21, 22, 23, 87] [] [] [(1000000, .any), (3, .ptr [0] 0), (5, .ptr [2] 0), (6, .fn (.func 70) [.ptr [2] 0]), (7, .i (bif (!(daysP ([r.a, r.b]))) then 0 else r.kd)), (9, .ptr [4, 20] 0), (21, .tv (.sli 7 (l.map celS))), (22, .i (((l.map celS).length : Nat) : Int)), (23, .i ((i : Nat) : Int)), (87, .b (decide ((bif (!(daysP ([r.a, r.b]))) then 0 else r.kd) = (5 : Int))))] (b42_43 l i o r) 27 (by kernel_rfl) ?_ ?_
        ·exact trivial
        refine at_cond (b := (decide ((bif (!(daysP ([r.a, r.b]))) then 0 else r.kd) = (5 : Int)))) rfl rfl (fun hc87 => ?_) (fun hc87 => ?_)
        ·skip
         cases hs6 : (((decide ((a42_4 l r i) = (-1))) || (decide (mx (l.getD i Sn.z).a (l.getD i Sn.z).a < (a42_4 l r i)))))
         ·have qhs6 := hs6
          (try simp only [brs] at qhs6)
          refine at_B [3, 5, 6, 7, 9, 21, 22, 23] [.std, .std, .std, .std, .std, .std, .std, .std, .retH (.tup []) (b42_43 l i o r)] [CallOK Tryd.prog 70 [agS (l.getD i Sn.z), .i (l.getD i Sn.z).a, .i r.a, agF (l.getD i Sn.z).f, .ptr [2] 0] (b42_43 l i o r) [35, 20] (fun v1 H1 => v1 = (.tup []) ∧ H1 = (b42_43 l i o r))] [(1000000, .any), (3, .ptr [0] 0), (5, .ptr [2] 0), (6, .fn (.func 70) [.ptr [2] 0]), (7, .i (bif (!(daysP ([r.a, r.b]))) then 0 else r.kd)), (9, .ptr [4, 20] 0), (21, .tv (.sli 7 (l.map celS))), (22, .i (((l.map celS).length : Nat) : Int)), (23, .i ((i : Nat) : Int))] (b42_43 l i o r) 36 (by kernel_rfl) ?_ ?_
          ·refine ⟨?_, trivial⟩
           ·refine call_in (fn := Tryd.f70) [] Tryd.func70 rfl (by kernel_rfl) rfl ?_
            change AT _ _ _ ⟨[(0, agS (l.getD i Sn.z)), (1, .i (l.getD i Sn.z).a), (2, .i r.a), (3, agF (l.getD i Sn.z).f), (4, .ptr [2] 0)], (b42_43 l i o r), [35, 20], 0⟩
            refine at_B [1, 2, 4, 5, 8] [] [] [(1000000, .any), (1, .i (l.getD i Sn.z).a), (2, .i r.a), (4, .ptr [2] 0), (5, .ptr [0, 35, 20] 0), (8, .ptr [1, 35, 20] 0)] [(b42_24 l i), ([0, 35, 20], .row ((celS (l.getD i Sn.z)).map .tv) false), (b42_1 l i), ([0, 20], .row (flat celS o) false), (b42_3 o), ([0], .row ((celR r).map .tv) false)] 2 (by kernel_rfl) ?_ ?_
            ·exact trivial
            refine at_B [2, 4, 5, 8] [] [] [(1000000, .any), (2, .i r.a), (4, .ptr [2] 0), (5, .ptr [0, 35, 20] 0), (8, .ptr [1, 35, 20] 0)] (b42_61 l i o r) 8 (by kernel_rfl) ?_ ?_
            ·exact trivial
            refine at_seq ?_
            refine at_B [2, 4, 5, 8, 26] [] [] [(1000000, .any), (2, .i r.a), (4, .ptr [2] 0), (5, .ptr [0, 35, 20] 0), (8, .ptr [1, 35, 20] 0), (26, .b (a42_12 l r i))] (b42_61 l i o r) 21 (by kernel_rfl) ?_ ?_
            ·exact trivial
            refine at_mergel (p := [35, 20]) [(1000000, .any), (4, .ptr [2] 0), (5, .ptr [0, 35, 20] 0), (8, .ptr [1, 35, 20] 0)] [([1, 35, 20], .row ((celF (l.getD i Sn.z).f).map .tv) false), ([0, 35, 20], .row [.i (mx (l.getD i Sn.z).a (l.getD i Sn.z).a), .i (a42_4 l r i), .i (l.getD i Sn.z).f.op, .tv (.str (l.getD i Sn.z).f.nm), .i (l.getD i Sn.z).f.cm, .i (l.getD i Sn.z).f.n, .tv (.sli 5 ((l.getD i Sn.z).f.ks.map encF))] false), ([4, 20], .row ((celS (l.getD i Sn.z)).map .tv) false), ([0, 20], .row (flat celS o) false), ([2], .row [.sl [0, 20] 7 0 o.length] false), ([0], .row ((celR r).map .tv) false)] 24 ?_ ?_
            ·refine at_cond (b := (a42_12 l r i)) rfl rfl (fun hc26_92 => ?_) (fun hc26_92 => ?_)
             ·skip
              refine at_Bl [4, 5, 8] [] [] [(1000000, .any), (4, .ptr [2] 0), (5, .ptr [0, 35, 20] 0), (8, .ptr [1, 35, 20] 0)] [(b42_24 l i), (b42_30 l i r), (b42_1 l i), ([0, 20], .row (flat celS o) false), (b42_3 o), ([0], .row ((celR r).map .tv) false)] 24 (by kernel_rfl) ?_ ?_
              ·exact trivial
              exact gh_merge [4, 5, 8] [[1, 35, 20], [0, 35, 20], [4, 20], [0, 20], [2], [0]] (by kernel_rfl) (Eq.trans (b := [([1, 35, 20], .row ((celF (l.getD i Sn.z).f).map .tv) false), ([0, 35, 20], .row [.i (mx (l.getD i Sn.z).a (l.getD i Sn.z).a), .i r.a, .i (l.getD i Sn.z).f.op, .tv (.str (l.getD i Sn.z).f.nm), .i (l.getD i Sn.z).f.cm, .i (l.getD i Sn.z).f.n, .tv (.sli 5 ((l.getD i Sn.z).f.ks.map encF))] false), ([4, 20], .row ((celS (l.getD i Sn.z)).map .tv) false), ([0, 20], .row (flat celS o) false), ([2], .row [.sl [0, 20] 7 0 o.length] false), ([0], .row ((celR r).map .tv) false)]) (by kernel_rfl) (by simp only [hc26_92, a42_1, a42_2, a42_3, a42_4, a42_5, a42_6, a42_7, a42_8, a42_9, a42_10, a42_11, a42_12, cond_true, cond_false]; try rfl)) (by kernel_rfl)
             ·skip
              refine at_skip ?_
              exact gh_merge [4, 5, 8] [[1, 35, 20], [0, 35, 20], [4, 20], [0, 20], [2], [0]] (by kernel_rfl) (Eq.trans (b := [([1, 35, 20], .row ((celF (l.getD i Sn.z).f).map .tv) false), ([0, 35, 20], .row [.i (mx (l.getD i Sn.z).a (l.getD i Sn.z).a), .i (l.getD i Sn.z).b, .i (l.getD i Sn.z).f.op, .tv (.str (l.getD i Sn.z).f.nm), .i (l.getD i Sn.z).f.cm, .i (l.getD i Sn.z).f.n, .tv (.sli 5 ((l.getD i Sn.z).f.ks.map encF))] false), ([4, 20], .row ((celS (l.getD i Sn.z)).map .tv) false), ([0, 20], .row (flat celS o) false), ([2], .row [.sl [0, 20] 7 0 o.length] false), ([0], .row ((celR r).map .tv) false)]) (by kernel_rfl) (by simp only [hc26_92, a42_1, a42_2, a42_3, a42_4, a42_5, a42_6, a42_7, a42_8, a42_9, a42_10, a42_11, a42_12, cond_true, cond_false]; try rfl)) (by kernel_rfl)
            change AT _ _ _ _
            refine at_B [4, 5] [] [] [(1000000, .any), (4, .ptr [2] 0), (5, .ptr [0, 35, 20] 0)] (b42_55 l i r o) 27 (by kernel_rfl) ?_ ?_
            ·exact trivial
            refine at_B [4, 5, 40] [] [] [(1000000, .any), (4, .ptr [2] 0), (5, .ptr [0, 35, 20] 0), (40, .b ((decide ((a42_4 l r i) = (-1))) || (decide (mx (l.getD i Sn.z).a (l.getD i Sn.z).a < (a42_4 l r i)))))] (b42_55 l i r o) 37 (by kernel_rfl) ?_ ?_
            ·exact trivial
            refine at_cond (b := ((decide ((a42_4 l r i) = (-1))) || (decide (mx (l.getD i Sn.z).a (l.getD i Sn.z).a < (a42_4 l r i))))) rfl rfl (fun h => ?_) (fun h => ?_)
            ·exact absurd (h.symm.trans hs6) (by decide)
            clear h
            refine at_skip ?_
            exact fin_in (.inl rfl) [[4, 20], [0, 20], [2], [0]] (.tup []) (b42_55 l i r o) (by kernel_rfl) rfl (by kernel_rfl)
          refine at_B [3, 5, 6, 7, 9, 10, 21, 22, 23] [] [] [(1000000, .any), (3, .ptr [0] 0), (5, .ptr [2] 0), (6, .fn (.func 70) [.ptr [2] 0]), (7, .i (bif (!(daysP ([r.a, r.b]))) then 0 else r.kd)), (9, .ptr [4, 20] 0), (10, .ptr [38, 20] 0), (21, .tv (.sli 7 (l.map celS))), (22, .i (((l.map celS).length : Nat) : Int)), (23, .i ((i : Nat) : Int))] [([38, 20], .row ((celF r.f).map .tv) false), (b42_1 l i), ([0, 20], .row (flat celS o) false), (b42_3 o), ([0], .row ((celR r).map .tv) false)] 40 (by kernel_rfl) ?_ ?_
          ·exact trivial
          refine at_seq ?_
          refine at_B [3, 5, 6, 7, 9, 10, 21, 22, 23, 103] [] [] [(1000000, .any), (3, .ptr [0] 0), (5, .ptr [2] 0), (6, .fn (.func 70) [.ptr [2] 0]), (7, .i (bif (!(daysP ([r.a, r.b]))) then 0 else r.kd)), (9, .ptr [4, 20] 0), (10, .ptr [38, 20] 0), (21, .tv (.sli 7 (l.map celS))), (22, .i (((l.map celS).length : Nat) : Int)), (23, .i ((i : Nat) : Int)), (103, .b (!decide ((l.getD i Sn.z).f.op = (1 : Int))))] [([38, 20], .row ((celF r.f).map .tv) false), (b42_1 l i), ([0, 20], .row (flat celS o) false), (b42_3 o), ([0], .row ((celR r).map .tv) false)] 44 (by kernel_rfl) ?_ ?_
          ·exact trivial
          refine at_mergel (p := [20]) [(1000000, .any), (3, .ptr [0] 0), (5, .ptr [2] 0), (6, .fn (.func 70) [.ptr [2] 0]), (7, .i (bif (!(daysP ([r.a, r.b]))) then 0 else r.kd)), (9, .ptr [4, 20] 0), (10, .ptr [38, 20] 0), (21, .tv (.sli 7 (l.map celS))), (22, .i (((l.map celS).length : Nat) : Int)), (23, .i ((i : Nat) : Int))] [([38, 20], .row [.i (a42_6 l r i), .tv (.str (a42_5 l r i)), .i (a42_7 l r i), .i (a42_8 l r i), .tv (.sli 5 (a42_3 l r i))] false), ([4, 20], .row ((celS (l.getD i Sn.z)).map .tv) false), ([0, 20], .row (flat celS o) false), ([2], .row [.sl [0, 20] 7 0 o.length] false), ([0], .row ((celR r).map .tv) false)] 51 ?_ ?_
          ·refine at_cond (b := (!decide ((l.getD i Sn.z).f.op = (1 : Int)))) rfl rfl (fun hc103 => ?_) (fun hc103 => ?_)
           ·skip
            refine at_Bl [3, 5, 6, 7, 9, 10, 21, 22, 23] [.std, .std, .std, .std, .eq (.tv (.sli 5 (([(l.getD i Sn.z).f, r.f] : List _).map encF)))] [(.tv (.sli 5 [(celF (l.getD i Sn.z).f), (celF r.f)]) : AV) = .tv (.sli 5 (([(l.getD i Sn.z).f, r.f] : List _).map encF))] [(1000000, .any), (3, .ptr [0] 0), (5, .ptr [2] 0), (6, .fn (.func 70) [.ptr [2] 0]), (7, .i (bif (!(daysP ([r.a, r.b]))) then 0 else r.kd)), (9, .ptr [4, 20] 0), (10, .ptr [38, 20] 0), (21, .tv (.sli 7 (l.map celS))), (22, .i (((l.map celS).length : Nat) : Int)), (23, .i ((i : Nat) : Int))] [([38, 20], .row [.i 6, .tv (.str ⟨#[]⟩), .i 0, .i 0, .tv (.sli 5 (([(l.getD i Sn.z).f, r.f] : List _).map encF))] false), (b42_1 l i), ([0, 20], .row (flat celS o) false), (b42_3 o), ([0], .row ((celR r).map .tv) false)] 51 (by kernel_rfl) ?_ ?_
            ·exact ⟨by first | ((simp only [List.map, encF_eq]) <;> rfl) | (simp only [List.map, encF_eq, celF, Fm.op, Fm.nm, Fm.cm, Fm.n, Fm.ks]; done) | (simp only [List.map, encF_eq, celF, Fm.op, Fm.nm, Fm.cm, Fm.n, Fm.ks]; rfl), trivial⟩
            exact gh_merge [3, 5, 6, 7, 9, 10, 21, 22, 23] [[38, 20], [4, 20], [0, 20], [2], [0]] (by kernel_rfl) (Eq.trans (b := [([38, 20], .row [.i 6, .tv (.str ⟨#[]⟩), .i 0, .i 0, .tv (.sli 5 (([(l.getD i Sn.z).f, r.f] : List _).map encF))] false), ([4, 20], .row ((celS (l.getD i Sn.z)).map .tv) false), ([0, 20], .row (flat celS o) false), ([2], .row [.sl [0, 20] 7 0 o.length] false), ([0], .row ((celR r).map .tv) false)]) (by kernel_rfl) (by simp only [hc103, a42_1, a42_2, a42_3, a42_4, a42_5, a42_6, a42_7, a42_8, a42_9, a42_10, a42_11, a42_12, cond_true, cond_false]; try rfl)) (by kernel_rfl)
           ·skip
            refine at_skip ?_
            exact gh_merge [3, 5, 6, 7, 9, 10, 21, 22, 23] [[38, 20], [4, 20], [0, 20], [2], [0]] (by kernel_rfl) (Eq.trans (b := [([38, 20], .row ((celF r.f).map .tv) false), ([4, 20], .row ((celS (l.getD i Sn.z)).map .tv) false), ([0, 20], .row (flat celS o) false), ([2], .row [.sl [0, 20] 7 0 o.length] false), ([0], .row ((celR r).map .tv) false)]) (by kernel_rfl) (by simp only [hc103, a42_1, a42_2, a42_3, a42_4, a42_5, a42_6, a42_7, a42_8, a42_9, a42_10, a42_11, a42_12, cond_true, cond_false]; try rfl)) (by kernel_rfl)
          change AT _ _ _ _
          cases hs7 : (((decide ((l.getD i Sn.z).b = (-1))) || (decide (mx (l.getD i Sn.z).a r.a < (l.getD i Sn.z).b))))
          ·have qhs7 := hs7
           (try simp only [brs] at qhs7)
           refine at_Bl [3, 5, 6, 7, 21, 22, 23] [.std, .std, .std, .std, .std, .retH (.tup []) (b42_48 l r i o)] [CallOK Tryd.prog 70 [agS (l.getD i Sn.z), .i r.a, .i (-1), .agg [.i (a42_6 l r i), .tv (.str (a42_5 l r i)), .i (a42_7 l r i), .i (a42_8 l r i), .tv (.sli 5 (a42_3 l r i))], .ptr [2] 0] (b42_48 l r i o) [56, 20] (fun v1 H1 => v1 = (.tup []) ∧ H1 = (b42_48 l r i o))] [(1000000, .any), (3, .ptr [0] 0), (5, .ptr [2] 0), (6, .fn (.func 70) [.ptr [2] 0]), (7, .i (bif (!(daysP ([r.a, r.b]))) then 0 else r.kd)), (21, .tv (.sli 7 (l.map celS))), (22, .i (((l.map celS).length : Nat) : Int)), (23, .i ((i : Nat) : Int))] (b42_48 l r i o) 57 (by kernel_rfl) ?_ ?_
           ·refine ⟨?_, trivial⟩
            ·refine call_in (fn := Tryd.f70) [] Tryd.func70 rfl (by kernel_rfl) rfl ?_
             change AT _ _ _ ⟨[(0, agS (l.getD i Sn.z)), (1, .i r.a), (2, .i (-1)), (3, .agg [.i (a42_6 l r i), .tv (.str (a42_5 l r i)), .i (a42_7 l r i), .i (a42_8 l r i), .tv (.sli 5 (a42_3 l r i))]), (4, .ptr [2] 0)], (b42_48 l r i o), [56, 20], 0⟩
             refine at_B [1, 2, 4, 5, 8] [] [] [(1000000, .any), (1, .i r.a), (2, .i (-1)), (4, .ptr [2] 0), (5, .ptr [0, 56, 20] 0), (8, .ptr [1, 56, 20] 0)] (b42_65 l r i o) 2 (by kernel_rfl) ?_ ?_
             ·exact trivial
             refine at_B [2, 4, 5, 8] [] [] [(1000000, .any), (2, .i (-1)), (4, .ptr [2] 0), (5, .ptr [0, 56, 20] 0), (8, .ptr [1, 56, 20] 0)] (b42_57 l r i o) 8 (by kernel_rfl) ?_ ?_
             ·exact trivial
             refine at_seq ?_
             refine at_B [2, 4, 5, 8, 26] [] [] [(1000000, .any), (2, .i (-1)), (4, .ptr [2] 0), (5, .ptr [0, 56, 20] 0), (8, .ptr [1, 56, 20] 0), (26, .b false)] (b42_57 l r i o) 21 (by kernel_rfl) ?_ ?_
             ·exact trivial
             refine at_cond (b := false) rfl rfl (fun h => ?_) (fun h => ?_)
             ·cases h
             clear h
             refine at_skip ?_
             change AT _ _ _ _
             refine at_B [4, 5] [] [] [(1000000, .any), (4, .ptr [2] 0), (5, .ptr [0, 56, 20] 0)] (b42_50 l r i o) 24 (by kernel_rfl) ?_ ?_
             ·exact trivial
             refine at_B [4, 5, 40] [] [] [(1000000, .any), (4, .ptr [2] 0), (5, .ptr [0, 56, 20] 0), (40, .b ((decide ((l.getD i Sn.z).b = (-1))) || (decide (mx (l.getD i Sn.z).a r.a < (l.getD i Sn.z).b))))] (b42_50 l r i o) 34 (by kernel_rfl) ?_ ?_
             ·exact trivial
             refine at_cond (b := ((decide ((l.getD i Sn.z).b = (-1))) || (decide (mx (l.getD i Sn.z).a r.a < (l.getD i Sn.z).b)))) rfl rfl (fun h => ?_) (fun h => ?_)
             ·exact absurd (h.symm.trans hs7) (by decide)
             clear h
             refine at_skip ?_
             exact fin_in (.inl rfl) [[38, 20], [4, 20], [0, 20], [2], [0]] (.tup []) (b42_50 l r i o) (by kernel_rfl) rfl (by kernel_rfl)
           change AT _ _ _ _
           refine at_Bl [3, 5, 6, 7, 21, 22, 23] [.eq (.i ((i + 1 : Nat) : Int))] [(.i (wr (((i : Nat) : Int) + 1)) : AV) = .i ((i + 1 : Nat) : Int)] [(1000000, .any), (3, .ptr [0] 0), (5, .ptr [2] 0), (6, .fn (.func 70) [.ptr [2] 0]), (7, .i (bif (!(daysP ([r.a, r.b]))) then 0 else r.kd)), (21, .tv (.sli 7 (l.map celS))), (22, .i (((l.map celS).length : Nat) : Int)), (23, .i ((i + 1 : Nat) : Int))] (b42_48 l r i o) 59 (by kernel_rfl) ?_ ?_
           ·exact ⟨succ_av i (by (try simp only [brs, lns] at *); omega), trivial⟩
           refine ⟨rfl, (i + 1, o), ?_, ?_, ?_⟩
           ·(try dsimp only); omega
           ·(try dsimp only); exact ⟨by omega, by (try simp only [List.length_append, List.length_cons, List.length_nil]); omega, by (rw [← hx3, drop_get l i Sn.z (by omega), List.foldl_cons]; congr 1; simp only [stepP, hc24, hc36, hc45, hc47, hc58, hc69, hc87, cond_true, cond_false]; refine put_2 (put_no hs6) ?_; first | exact put_no hs7 | (show _ = putS _ _; rw [← put_no hs7]; rfl))⟩
           ·exact rn_ok [([0, 20], [0, 20]), ([2], [2]), ([0], [0])] [[0, 20]] [3, 5, 6, 7, 21, 22, 23] (⟨clO_flat _ _ _, trivial⟩) (by kernel_rfl)
          ·have qhs7 := hs7
           (try simp only [brs] at qhs7)
           refine at_Bl [3, 5, 6, 7, 21, 22, 23] [.std, .std, .std, .std, .std, .retH (.tup []) (b42_63 o l r i)] [CallOK Tryd.prog 70 [agS (l.getD i Sn.z), .i r.a, .i (-1), .agg [.i (a42_6 l r i), .tv (.str (a42_5 l r i)), .i (a42_7 l r i), .i (a42_8 l r i), .tv (.sli 5 (a42_3 l r i))], .ptr [2] 0] (b42_48 l r i o) [56, 20] (fun v1 H1 => v1 = (.tup []) ∧ H1 = (b42_63 o l r i))] [(1000000, .any), (3, .ptr [0] 0), (5, .ptr [2] 0), (6, .fn (.func 70) [.ptr [2] 0]), (7, .i (bif (!(daysP ([r.a, r.b]))) then 0 else r.kd)), (21, .tv (.sli 7 (l.map celS))), (22, .i (((l.map celS).length : Nat) : Int)), (23, .i ((i : Nat) : Int))] (b42_63 o l r i) 57 (by kernel_rfl) ?_ ?_
           ·refine ⟨?_, trivial⟩
            ·refine call_in (fn := Tryd.f70) [] Tryd.func70 rfl (by kernel_rfl) rfl ?_
             change AT _ _ _ ⟨[(0, agS (l.getD i Sn.z)), (1, .i r.a), (2, .i (-1)), (3, .agg [.i (a42_6 l r i), .tv (.str (a42_5 l r i)), .i (a42_7 l r i), .i (a42_8 l r i), .tv (.sli 5 (a42_3 l r i))]), (4, .ptr [2] 0)], (b42_48 l r i o), [56, 20], 0⟩
             refine at_B [1, 2, 4, 5, 8] [] [] [(1000000, .any), (1, .i r.a), (2, .i (-1)), (4, .ptr [2] 0), (5, .ptr [0, 56, 20] 0), (8, .ptr [1, 56, 20] 0)] (b42_65 l r i o) 2 (by kernel_rfl) ?_ ?_
             ·exact trivial
             refine at_B [2, 4, 5, 8] [] [] [(1000000, .any), (2, .i (-1)), (4, .ptr [2] 0), (5, .ptr [0, 56, 20] 0), (8, .ptr [1, 56, 20] 0)] (b42_57 l r i o) 8 (by kernel_rfl) ?_ ?_
             ·exact trivial
             refine at_seq ?_
             refine at_B [2, 4, 5, 8, 26] [] [] [(1000000, .any), (2, .i (-1)), (4, .ptr [2] 0), (5, .ptr [0, 56, 20] 0), (8, .ptr [1, 56, 20] 0), (26, .b false)] (b42_57 l r i o) 21 (by kernel_rfl) ?_ ?_
             ·exact trivial
             refine at_cond (b := false) rfl rfl (fun h => ?_) (fun h => ?_)
             ·cases h
             clear h
             refine at_skip ?_
             change AT _ _ _ _
             refine at_B [4, 5] [] [] [(1000000, .any), (4, .ptr [2] 0), (5, .ptr [0, 56, 20] 0)] (b42_50 l r i o) 24 (by kernel_rfl) ?_ ?_
             ·exact trivial
             refine at_B [4, 5, 40] [] [] [(1000000, .any), (4, .ptr [2] 0), (5, .ptr [0, 56, 20] 0), (40, .b ((decide ((l.getD i Sn.z).b = (-1))) || (decide (mx (l.getD i Sn.z).a r.a < (l.getD i Sn.z).b))))] (b42_50 l r i o) 34 (by kernel_rfl) ?_ ?_
             ·exact trivial
             refine at_cond (b := ((decide ((l.getD i Sn.z).b = (-1))) || (decide (mx (l.getD i Sn.z).a r.a < (l.getD i Sn.z).b)))) rfl rfl (fun h => ?_) (fun h => ?_)
             rotate_left
             ·exact absurd (h.symm.trans hs7) (by decide)
             clear h
             refine at_Bl [] [.std, .std, .eq (.tv (.sli 7 (([(a42_2 l r i)] : List _).map celS))), .eff (.sl [37, 56, 20] 7 0 (o ++ [(a42_2 l r i)]).length) (.row (flat celS (o ++ [(a42_2 l r i)])) false)] [(.tv (.sli 7 [[.int .i64 (mx (l.getD i Sn.z).a r.a), .int .i64 (l.getD i Sn.z).b, .int .i64 (a42_6 l r i), .str (a42_5 l r i), .int .i64 (a42_7 l r i), .int .i64 (a42_8 l r i), .sli 5 (a42_3 l r i)]]) : AV) = .tv (.sli 7 (([(a42_2 l r i)] : List _).map celS)), (7 = 7 ∧ 0 = 0 ∧ (flat celS o).length = o.length * 7 ∧ o.length + 1 ≤ 9223372036854775807 ∧ (o.length + 1) * 80 ≤ 140737488355328), (.sl [37, 56, 20] 7 0 (o.length + 1) : AV) = .sl [37, 56, 20] 7 0 (o ++ [(a42_2 l r i)]).length, (.row ((flat celS o) ++ (List.map AV.tv (List.flatten (([(a42_2 l r i)] : List _).map celS)))) false : AO) = .row (flat celS (o ++ [(a42_2 l r i)])) false] [(1000000, .any)] [(b42_41 o l r i), (b42_6 l r i), (b42_7 l i r), (b42_2 l r i), (b42_1 l i), (b42_37 o l r i), ([0], .row ((celR r).map .tv) false)] 39 (by kernel_rfl) ?_ ?_
             ·exact ⟨rfl, ⟨rfl, rfl, flat_len (sz := 7) (fun _ => rfl) _, by (try simp only [brs, lns] at *); omega, by (try simp only [brs, lns] at *); omega⟩, by simp, congrArg (AO.row · false) (flat_app (rfl)), trivial⟩
             exact fin_in (.inl rfl) [[37, 56, 20], [38, 20], [4, 20], [2], [0]] (.tup []) [(b42_41 o l r i), (b42_6 l r i), (b42_7 l i r), (b42_2 l r i), (b42_1 l i), (b42_37 o l r i), ([0], .row ((celR r).map .tv) false)] (by kernel_rfl) rfl (by kernel_rfl)
           change AT _ _ _ _
           refine at_Bl [3, 5, 6, 7, 21, 22, 23] [.eq (.i ((i + 1 : Nat) : Int))] [(.i (wr (((i : Nat) : Int) + 1)) : AV) = .i ((i + 1 : Nat) : Int)] [(1000000, .any), (3, .ptr [0] 0), (5, .ptr [2] 0), (6, .fn (.func 70) [.ptr [2] 0]), (7, .i (bif (!(daysP ([r.a, r.b]))) then 0 else r.kd)), (21, .tv (.sli 7 (l.map celS))), (22, .i (((l.map celS).length : Nat) : Int)), (23, .i ((i + 1 : Nat) : Int))] (b42_63 o l r i) 59 (by kernel_rfl) ?_ ?_
           ·exact ⟨succ_av i (by (try simp only [brs, lns] at *); omega), trivial⟩
           refine ⟨rfl, (i + 1, (o ++ [(a42_2 l r i)])), ?_, ?_, ?_⟩
           ·(try dsimp only); omega
           ·(try dsimp only); exact ⟨by omega, by (try simp only [List.length_append, List.length_cons, List.length_nil]); omega, by (rw [← hx3, drop_get l i Sn.z (by omega), List.foldl_cons]; congr 1; simp only [stepP, hc24, hc36, hc45, hc47, hc58, hc69, hc87, cond_true, cond_false]; refine put_2 (put_no hs6) ?_; first | exact put_yes hs7 | (show _ = putS _ _; rw [← put_yes hs7]; rfl))⟩
           ·exact rn_ok [([37, 56, 20], [0, 20]), ([2], [2]), ([0], [0])] [[37, 56, 20]] [3, 5, 6, 7, 21, 22, 23] (⟨clO_flat _ _ _, trivial⟩) (by kernel_rfl)
         ·have qhs6 := hs6
          (try simp only [brs] at qhs6)
          refine at_B [3, 5, 6, 7, 9, 21, 22, 23] [.std, .std, .std, .std, .std, .std, .std, .std, .retH (.tup []) [(b42_16 o l r i), (b42_1 l i), (b42_13 o l r i), ([0], .row ((celR r).map .tv) false)]] [CallOK Tryd.prog 70 [agS (l.getD i Sn.z), .i (l.getD i Sn.z).a, .i r.a, agF (l.getD i Sn.z).f, .ptr [2] 0] (b42_43 l i o r) [35, 20] (fun v1 H1 => v1 = (.tup []) ∧ H1 = [(b42_16 o l r i), (b42_1 l i), (b42_13 o l r i), ([0], .row ((celR r).map .tv) false)])] [(1000000, .any), (3, .ptr [0] 0), (5, .ptr [2] 0), (6, .fn (.func 70) [.ptr [2] 0]), (7, .i (bif (!(daysP ([r.a, r.b]))) then 0 else r.kd)), (9, .ptr [4, 20] 0), (21, .tv (.sli 7 (l.map celS))), (22, .i (((l.map celS).length : Nat) : Int)), (23, .i ((i : Nat) : Int))] [(b42_16 o l r i), (b42_1 l i), (b42_13 o l r i), ([0], .row ((celR r).map .tv) false)] 36 (by kernel_rfl) ?_ ?_
          ·refine ⟨?_, trivial⟩
           ·refine call_in (fn := Tryd.f70) [] Tryd.func70 rfl (by kernel_rfl) rfl ?_
            change AT _ _ _ ⟨[(0, agS (l.getD i Sn.z)), (1, .i (l.getD i Sn.z).a), (2, .i r.a), (3, agF (l.getD i Sn.z).f), (4, .ptr [2] 0)], (b42_43 l i o r), [35, 20], 0⟩
            refine at_B [1, 2, 4, 5, 8] [] [] [(1000000, .any), (1, .i (l.getD i Sn.z).a), (2, .i r.a), (4, .ptr [2] 0), (5, .ptr [0, 35, 20] 0), (8, .ptr [1, 35, 20] 0)] [(b42_24 l i), ([0, 35, 20], .row ((celS (l.getD i Sn.z)).map .tv) false), (b42_1 l i), ([0, 20], .row (flat celS o) false), (b42_3 o), ([0], .row ((celR r).map .tv) false)] 2 (by kernel_rfl) ?_ ?_
            ·exact trivial
            refine at_B [2, 4, 5, 8] [] [] [(1000000, .any), (2, .i r.a), (4, .ptr [2] 0), (5, .ptr [0, 35, 20] 0), (8, .ptr [1, 35, 20] 0)] (b42_61 l i o r) 8 (by kernel_rfl) ?_ ?_
            ·exact trivial
            refine at_seq ?_
            refine at_B [2, 4, 5, 8, 26] [] [] [(1000000, .any), (2, .i r.a), (4, .ptr [2] 0), (5, .ptr [0, 35, 20] 0), (8, .ptr [1, 35, 20] 0), (26, .b (a42_12 l r i))] (b42_61 l i o r) 21 (by kernel_rfl) ?_ ?_
            ·exact trivial
            refine at_mergel (p := [35, 20]) [(1000000, .any), (4, .ptr [2] 0), (5, .ptr [0, 35, 20] 0), (8, .ptr [1, 35, 20] 0)] [([1, 35, 20], .row ((celF (l.getD i Sn.z).f).map .tv) false), ([0, 35, 20], .row [.i (mx (l.getD i Sn.z).a (l.getD i Sn.z).a), .i (a42_4 l r i), .i (l.getD i Sn.z).f.op, .tv (.str (l.getD i Sn.z).f.nm), .i (l.getD i Sn.z).f.cm, .i (l.getD i Sn.z).f.n, .tv (.sli 5 ((l.getD i Sn.z).f.ks.map encF))] false), ([4, 20], .row ((celS (l.getD i Sn.z)).map .tv) false), ([0, 20], .row (flat celS o) false), ([2], .row [.sl [0, 20] 7 0 o.length] false), ([0], .row ((celR r).map .tv) false)] 24 ?_ ?_
            ·refine at_cond (b := (a42_12 l r i)) rfl rfl (fun hc26_96 => ?_) (fun hc26_96 => ?_)
             ·skip
              refine at_Bl [4, 5, 8] [] [] [(1000000, .any), (4, .ptr [2] 0), (5, .ptr [0, 35, 20] 0), (8, .ptr [1, 35, 20] 0)] [(b42_24 l i), (b42_30 l i r), (b42_1 l i), ([0, 20], .row (flat celS o) false), (b42_3 o), ([0], .row ((celR r).map .tv) false)] 24 (by kernel_rfl) ?_ ?_
              ·exact trivial
              exact gh_merge [4, 5, 8] [[1, 35, 20], [0, 35, 20], [4, 20], [0, 20], [2], [0]] (by kernel_rfl) (Eq.trans (b := [([1, 35, 20], .row ((celF (l.getD i Sn.z).f).map .tv) false), ([0, 35, 20], .row [.i (mx (l.getD i Sn.z).a (l.getD i Sn.z).a), .i r.a, .i (l.getD i Sn.z).f.op, .tv (.str (l.getD i Sn.z).f.nm), .i (l.getD i Sn.z).f.cm, .i (l.getD i Sn.z).f.n, .tv (.sli 5 ((l.getD i Sn.z).f.ks.map encF))] false), ([4, 20], .row ((celS (l.getD i Sn.z)).map .tv) false), ([0, 20], .row (flat celS o) false), ([2], .row [.sl [0, 20] 7 0 o.length] false), ([0], .row ((celR r).map .tv) false)]) (by kernel_rfl) (by simp only [hc26_96, a42_1, a42_2, a42_3, a42_4, a42_5, a42_6, a42_7, a42_8, a42_9, a42_10, a42_11, a42_12, cond_true, cond_false]; try rfl)) (by kernel_rfl)
             ·skip
              refine at_skip ?_
              exact gh_merge [4, 5, 8] [[1, 35, 20], [0, 35, 20], [4, 20], [0, 20], [2], [0]] (by kernel_rfl) (Eq.trans (b := [([1, 35, 20], .row ((celF (l.getD i Sn.z).f).map .tv) false), ([0, 35, 20], .row [.i (mx (l.getD i Sn.z).a (l.getD i Sn.z).a), .i (l.getD i Sn.z).b, .i (l.getD i Sn.z).f.op, .tv (.str (l.getD i Sn.z).f.nm), .i (l.getD i Sn.z).f.cm, .i (l.getD i Sn.z).f.n, .tv (.sli 5 ((l.getD i Sn.z).f.ks.map encF))] false), ([4, 20], .row ((celS (l.getD i Sn.z)).map .tv) false), ([0, 20], .row (flat celS o) false), ([2], .row [.sl [0, 20] 7 0 o.length] false), ([0], .row ((celR r).map .tv) false)]) (by kernel_rfl) (by simp only [hc26_96, a42_1, a42_2, a42_3, a42_4, a42_5, a42_6, a42_7, a42_8, a42_9, a42_10, a42_11, a42_12, cond_true, cond_false]; try rfl)) (by kernel_rfl)
            change AT _ _ _ _
            refine at_B [4, 5] [] [] [(1000000, .any), (4, .ptr [2] 0), (5, .ptr [0, 35, 20] 0)] (b42_55 l i r o) 27 (by kernel_rfl) ?_ ?_
            ·exact trivial
            refine at_B [4, 5, 40] [] [] [(1000000, .any), (4, .ptr [2] 0), (5, .ptr [0, 35, 20] 0), (40, .b ((decide ((a42_4 l r i) = (-1))) || (decide (mx (l.getD i Sn.z).a (l.getD i Sn.z).a < (a42_4 l r i)))))] (b42_55 l i r o) 37 (by kernel_rfl) ?_ ?_
            ·exact trivial
            refine at_cond (b := ((decide ((a42_4 l r i) = (-1))) || (decide (mx (l.getD i Sn.z).a (l.getD i Sn.z).a < (a42_4 l r i))))) rfl rfl (fun h => ?_) (fun h => ?_)
            rotate_left
            ·exact absurd (h.symm.trans hs6) (by decide)
            clear h
            refine at_Bl [] [.std, .std, .eq (.tv (.sli 7 (([(a42_1 l r i)] : List _).map celS))), .eff (.sl [40, 35, 20] 7 0 (o ++ [(a42_1 l r i)]).length) (.row (flat celS (o ++ [(a42_1 l r i)])) false)] [(.tv (.sli 7 [[.int .i64 (mx (l.getD i Sn.z).a (l.getD i Sn.z).a), .int .i64 (a42_4 l r i), .int .i64 (l.getD i Sn.z).f.op, .str (l.getD i Sn.z).f.nm, .int .i64 (l.getD i Sn.z).f.cm, .int .i64 (l.getD i Sn.z).f.n, .sli 5 ((l.getD i Sn.z).f.ks.map encF)]]) : AV) = .tv (.sli 7 (([(a42_1 l r i)] : List _).map celS)), (7 = 7 ∧ 0 = 0 ∧ (flat celS o).length = o.length * 7 ∧ o.length + 1 ≤ 9223372036854775807 ∧ (o.length + 1) * 80 ≤ 140737488355328), (.sl [40, 35, 20] 7 0 (o.length + 1) : AV) = .sl [40, 35, 20] 7 0 (o ++ [(a42_1 l r i)]).length, (.row ((flat celS o) ++ (List.map AV.tv (List.flatten (([(a42_1 l r i)] : List _).map celS)))) false : AO) = .row (flat celS (o ++ [(a42_1 l r i)])) false] [(1000000, .any)] [(b42_16 o l r i), (b42_24 l i), (b42_12 l i r), (b42_1 l i), (b42_13 o l r i), ([0], .row ((celR r).map .tv) false)] 42 (by kernel_rfl) ?_ ?_
            ·exact ⟨rfl, ⟨rfl, rfl, flat_len (sz := 7) (fun _ => rfl) _, by (try simp only [brs, lns] at *); omega, by (try simp only [brs, lns] at *); omega⟩, by simp, congrArg (AO.row · false) (flat_app (rfl)), trivial⟩
            exact fin_in (.inl rfl) [[40, 35, 20], [4, 20], [2], [0]] (.tup []) [(b42_16 o l r i), (b42_24 l i), (b42_12 l i r), (b42_1 l i), (b42_13 o l r i), ([0], .row ((celR r).map .tv) false)] (by kernel_rfl) rfl (by kernel_rfl)
          refine at_B [3, 5, 6, 7, 9, 10, 21, 22, 23] [] [] [(1000000, .any), (3, .ptr [0] 0), (5, .ptr [2] 0), (6, .fn (.func 70) [.ptr [2] 0]), (7, .i (bif (!(daysP ([r.a, r.b]))) then 0 else r.kd)), (9, .ptr [4, 20] 0), (10, .ptr [38, 20] 0), (21, .tv (.sli 7 (l.map celS))), (22, .i (((l.map celS).length : Nat) : Int)), (23, .i ((i : Nat) : Int))] [([38, 20], .row ((celF r.f).map .tv) false), (b42_16 o l r i), (b42_1 l i), (b42_13 o l r i), ([0], .row ((celR r).map .tv) false)] 40 (by kernel_rfl) ?_ ?_
          ·exact trivial
          refine at_seq ?_
          refine at_B [3, 5, 6, 7, 9, 10, 21, 22, 23, 103] [] [] [(1000000, .any), (3, .ptr [0] 0), (5, .ptr [2] 0), (6, .fn (.func 70) [.ptr [2] 0]), (7, .i (bif (!(daysP ([r.a, r.b]))) then 0 else r.kd)), (9, .ptr [4, 20] 0), (10, .ptr [38, 20] 0), (21, .tv (.sli 7 (l.map celS))), (22, .i (((l.map celS).length : Nat) : Int)), (23, .i ((i : Nat) : Int)), (103, .b (!decide ((l.getD i Sn.z).f.op = (1 : Int))))] [([38, 20], .row ((celF r.f).map .tv) false), (b42_16 o l r i), (b42_1 l i), (b42_13 o l r i), ([0], .row ((celR r).map .tv) false)] 44 (by kernel_rfl) ?_ ?_
          ·exact trivial
          refine at_mergel (p := [20]) [(1000000, .any), (3, .ptr [0] 0), (5, .ptr [2] 0), (6, .fn (.func 70) [.ptr [2] 0]), (7, .i (bif (!(daysP ([r.a, r.b]))) then 0 else r.kd)), (9, .ptr [4, 20] 0), (10, .ptr [38, 20] 0), (21, .tv (.sli 7 (l.map celS))), (22, .i (((l.map celS).length : Nat) : Int)), (23, .i ((i : Nat) : Int))] [([38, 20], .row [.i (a42_6 l r i), .tv (.str (a42_5 l r i)), .i (a42_7 l r i), .i (a42_8 l r i), .tv (.sli 5 (a42_3 l r i))] false), ([40, 35, 20], .row (flat celS (o ++ [(a42_1 l r i)])) false), ([4, 20], .row ((celS (l.getD i Sn.z)).map .tv) false), ([2], .row [.sl [40, 35, 20] 7 0 (o ++ [(a42_1 l r i)]).length] false), ([0], .row ((celR r).map .tv) false)] 51 ?_ ?_
          ·refine at_cond (b := (!decide ((l.getD i Sn.z).f.op = (1 : Int)))) rfl rfl (fun hc103 => ?_) (fun hc103 => ?_)
           ·skip
            refine at_Bl [3, 5, 6, 7, 9, 10, 21, 22, 23] [.std, .std, .std, .std, .eq (.tv (.sli 5 (([(l.getD i Sn.z).f, r.f] : List _).map encF)))] [(.tv (.sli 5 [(celF (l.getD i Sn.z).f), (celF r.f)]) : AV) = .tv (.sli 5 (([(l.getD i Sn.z).f, r.f] : List _).map encF))] [(1000000, .any), (3, .ptr [0] 0), (5, .ptr [2] 0), (6, .fn (.func 70) [.ptr [2] 0]), (7, .i (bif (!(daysP ([r.a, r.b]))) then 0 else r.kd)), (9, .ptr [4, 20] 0), (10, .ptr [38, 20] 0), (21, .tv (.sli 7 (l.map celS))), (22, .i (((l.map celS).length : Nat) : Int)), (23, .i ((i : Nat) : Int))] [([38, 20], .row [.i 6, .tv (.str ⟨#[]⟩), .i 0, .i 0, .tv (.sli 5 (([(l.getD i Sn.z).f, r.f] : List _).map encF))] false), (b42_16 o l r i), (b42_1 l i), (b42_13 o l r i), ([0], .row ((celR r).map .tv) false)] 51 (by kernel_rfl) ?_ ?_
            ·exact ⟨by first | ((simp only [List.map, encF_eq]) <;> rfl) | (simp only [List.map, encF_eq, celF, Fm.op, Fm.nm, Fm.cm, Fm.n, Fm.ks]; done) | (simp only [List.map, encF_eq, celF, Fm.op, Fm.nm, Fm.cm, Fm.n, Fm.ks]; rfl), trivial⟩
            exact gh_merge [3, 5, 6, 7, 9, 10, 21, 22, 23] [[38, 20], [40, 35, 20], [4, 20], [2], [0]] (by kernel_rfl) (Eq.trans (b := [([38, 20], .row [.i 6, .tv (.str ⟨#[]⟩), .i 0, .i 0, .tv (.sli 5 (([(l.getD i Sn.z).f, r.f] : List _).map encF))] false), ([40, 35, 20], .row (flat celS (o ++ [(a42_1 l r i)])) false), ([4, 20], .row ((celS (l.getD i Sn.z)).map .tv) false), ([2], .row [.sl [40, 35, 20] 7 0 (o ++ [(a42_1 l r i)]).length] false), ([0], .row ((celR r).map .tv) false)]) (by kernel_rfl) (by simp only [hc103, a42_1, a42_2, a42_3, a42_4, a42_5, a42_6, a42_7, a42_8, a42_9, a42_10, a42_11, a42_12, cond_true, cond_false]; try rfl)) (by kernel_rfl)
           ·skip
            refine at_skip ?_
            exact gh_merge [3, 5, 6, 7, 9, 10, 21, 22, 23] [[38, 20], [40, 35, 20], [4, 20], [2], [0]] (by kernel_rfl) (Eq.trans (b := [([38, 20], .row ((celF r.f).map .tv) false), ([40, 35, 20], .row (flat celS (o ++ [(a42_1 l r i)])) false), ([4, 20], .row ((celS (l.getD i Sn.z)).map .tv) false), ([2], .row [.sl [40, 35, 20] 7 0 (o ++ [(a42_1 l r i)]).length] false), ([0], .row ((celR r).map .tv) false)]) (by kernel_rfl) (by simp only [hc103, a42_1, a42_2, a42_3, a42_4, a42_5, a42_6, a42_7, a42_8, a42_9, a42_10, a42_11, a42_12, cond_true, cond_false]; try rfl)) (by kernel_rfl)
          change AT _ _ _ _
          cases hs8 : (((decide ((l.getD i Sn.z).b = (-1))) || (decide (mx (l.getD i Sn.z).a r.a < (l.getD i Sn.z).b))))
          ·have qhs8 := hs8
           (try simp only [brs] at qhs8)
           refine at_Bl [3, 5, 6, 7, 21, 22, 23] [.std, .std, .std, .std, .std, .retH (.tup []) (b42_49 l r i o)] [CallOK Tryd.prog 70 [agS (l.getD i Sn.z), .i r.a, .i (-1), .agg [.i (a42_6 l r i), .tv (.str (a42_5 l r i)), .i (a42_7 l r i), .i (a42_8 l r i), .tv (.sli 5 (a42_3 l r i))], .ptr [2] 0] (b42_49 l r i o) [56, 20] (fun v1 H1 => v1 = (.tup []) ∧ H1 = (b42_49 l r i o))] [(1000000, .any), (3, .ptr [0] 0), (5, .ptr [2] 0), (6, .fn (.func 70) [.ptr [2] 0]), (7, .i (bif (!(daysP ([r.a, r.b]))) then 0 else r.kd)), (21, .tv (.sli 7 (l.map celS))), (22, .i (((l.map celS).length : Nat) : Int)), (23, .i ((i : Nat) : Int))] (b42_49 l r i o) 57 (by kernel_rfl) ?_ ?_
           ·refine ⟨?_, trivial⟩
            ·refine call_in (fn := Tryd.f70) [] Tryd.func70 rfl (by kernel_rfl) rfl ?_
             change AT _ _ _ ⟨[(0, agS (l.getD i Sn.z)), (1, .i r.a), (2, .i (-1)), (3, .agg [.i (a42_6 l r i), .tv (.str (a42_5 l r i)), .i (a42_7 l r i), .i (a42_8 l r i), .tv (.sli 5 (a42_3 l r i))]), (4, .ptr [2] 0)], (b42_49 l r i o), [56, 20], 0⟩
             refine at_B [1, 2, 4, 5, 8] [] [] [(1000000, .any), (1, .i r.a), (2, .i (-1)), (4, .ptr [2] 0), (5, .ptr [0, 56, 20] 0), (8, .ptr [1, 56, 20] 0)] [(b42_6 l r i), ([0, 56, 20], .row ((celS (l.getD i Sn.z)).map .tv) false), (b42_2 l r i), (b42_16 o l r i), (b42_1 l i), (b42_13 o l r i), ([0], .row ((celR r).map .tv) false)] 2 (by kernel_rfl) ?_ ?_
             ·exact trivial
             refine at_B [2, 4, 5, 8] [] [] [(1000000, .any), (2, .i (-1)), (4, .ptr [2] 0), (5, .ptr [0, 56, 20] 0), (8, .ptr [1, 56, 20] 0)] (b42_58 l r i o) 8 (by kernel_rfl) ?_ ?_
             ·exact trivial
             refine at_seq ?_
             refine at_B [2, 4, 5, 8, 26] [] [] [(1000000, .any), (2, .i (-1)), (4, .ptr [2] 0), (5, .ptr [0, 56, 20] 0), (8, .ptr [1, 56, 20] 0), (26, .b false)] (b42_58 l r i o) 21 (by kernel_rfl) ?_ ?_
             ·exact trivial
             refine at_cond (b := false) rfl rfl (fun h => ?_) (fun h => ?_)
             ·cases h
             clear h
             refine at_skip ?_
             change AT _ _ _ _
             refine at_B [4, 5] [] [] [(1000000, .any), (4, .ptr [2] 0), (5, .ptr [0, 56, 20] 0)] (b42_52 l r i o) 24 (by kernel_rfl) ?_ ?_
             ·exact trivial
             refine at_B [4, 5, 40] [] [] [(1000000, .any), (4, .ptr [2] 0), (5, .ptr [0, 56, 20] 0), (40, .b ((decide ((l.getD i Sn.z).b = (-1))) || (decide (mx (l.getD i Sn.z).a r.a < (l.getD i Sn.z).b))))] (b42_52 l r i o) 34 (by kernel_rfl) ?_ ?_
             ·exact trivial
             refine at_cond (b := ((decide ((l.getD i Sn.z).b = (-1))) || (decide (mx (l.getD i Sn.z).a r.a < (l.getD i Sn.z).b)))) rfl rfl (fun h => ?_) (fun h => ?_)
             ·exact absurd (h.symm.trans hs8) (by decide)
             clear h
             refine at_skip ?_
             exact fin_in (.inl rfl) [[38, 20], [40, 35, 20], [4, 20], [2], [0]] (.tup []) (b42_52 l r i o) (by kernel_rfl) rfl (by kernel_rfl)
           change AT _ _ _ _
           refine at_Bl [3, 5, 6, 7, 21, 22, 23] [.eq (.i ((i + 1 : Nat) : Int))] [(.i (wr (((i : Nat) : Int) + 1)) : AV) = .i ((i + 1 : Nat) : Int)] [(1000000, .any), (3, .ptr [0] 0), (5, .ptr [2] 0), (6, .fn (.func 70) [.ptr [2] 0]), (7, .i (bif (!(daysP ([r.a, r.b]))) then 0 else r.kd)), (21, .tv (.sli 7 (l.map celS))), (22, .i (((l.map celS).length : Nat) : Int)), (23, .i ((i + 1 : Nat) : Int))] (b42_49 l r i o) 59 (by kernel_rfl) ?_ ?_
           ·exact ⟨succ_av i (by (try simp only [brs, lns] at *); omega), trivial⟩
           refine ⟨rfl, (i + 1, (o ++ [(a42_1 l r i)])), ?_, ?_, ?_⟩
           ·(try dsimp only); omega
           ·(try dsimp only); exact ⟨by omega, by (try simp only [List.length_append, List.length_cons, List.length_nil]); omega, by (rw [← hx3, drop_get l i Sn.z (by omega), List.foldl_cons]; congr 1; simp only [stepP, hc24, hc36, hc45, hc47, hc58, hc69, hc87, cond_true, cond_false]; refine put_2 (put_yes hs6) ?_; first | exact put_no hs8 | (show _ = putS _ _; rw [← put_no hs8]; rfl))⟩
           ·exact rn_ok [([40, 35, 20], [0, 20]), ([2], [2]), ([0], [0])] [[40, 35, 20]] [3, 5, 6, 7, 21, 22, 23] (⟨clO_flat _ _ _, trivial⟩) (by kernel_rfl)
          ·have qhs8 := hs8
           (try simp only [brs] at qhs8)
           refine at_Bl [3, 5, 6, 7, 21, 22, 23] [.std, .std, .std, .std, .std, .retH (.tup []) (b42_64 o l r i)] [CallOK Tryd.prog 70 [agS (l.getD i Sn.z), .i r.a, .i (-1), .agg [.i (a42_6 l r i), .tv (.str (a42_5 l r i)), .i (a42_7 l r i), .i (a42_8 l r i), .tv (.sli 5 (a42_3 l r i))], .ptr [2] 0] (b42_49 l r i o) [56, 20] (fun v1 H1 => v1 = (.tup []) ∧ H1 = (b42_64 o l r i))] [(1000000, .any), (3, .ptr [0] 0), (5, .ptr [2] 0), (6, .fn (.func 70) [.ptr [2] 0]), (7, .i (bif (!(daysP ([r.a, r.b]))) then 0 else r.kd)), (21, .tv (.sli 7 (l.map celS))), (22, .i (((l.map celS).length : Nat) : Int)), (23, .i ((i : Nat) : Int))] (b42_64 o l r i) 57 (by kernel_rfl) ?_ ?_
           ·refine ⟨?_, trivial⟩
            ·refine call_in (fn := Tryd.f70) [] Tryd.func70 rfl (by kernel_rfl) rfl ?_
             change AT _ _ _ ⟨[(0, agS (l.getD i Sn.z)), (1, .i r.a), (2, .i (-1)), (3, .agg [.i (a42_6 l r i), .tv (.str (a42_5 l r i)), .i (a42_7 l r i), .i (a42_8 l r i), .tv (.sli 5 (a42_3 l r i))]), (4, .ptr [2] 0)], (b42_49 l r i o), [56, 20], 0⟩
             refine at_B [1, 2, 4, 5, 8] [] [] [(1000000, .any), (1, .i r.a), (2, .i (-1)), (4, .ptr [2] 0), (5, .ptr [0, 56, 20] 0), (8, .ptr [1, 56, 20] 0)] [(b42_6 l r i), ([0, 56, 20], .row ((celS (l.getD i Sn.z)).map .tv) false), (b42_2 l r i), (b42_16 o l r i), (b42_1 l i), (b42_13 o l r i), ([0], .row ((celR r).map .tv) false)] 2 (by kernel_rfl) ?_ ?_
             ·exact trivial
             refine at_B [2, 4, 5, 8] [] [] [(1000000, .any), (2, .i (-1)), (4, .ptr [2] 0), (5, .ptr [0, 56, 20] 0), (8, .ptr [1, 56, 20] 0)] (b42_58 l r i o) 8 (by kernel_rfl) ?_ ?_
             ·exact trivial
             refine at_seq ?_
             refine at_B [2, 4, 5, 8, 26] [] [] [(1000000, .any), (2, .i (-1)), (4, .ptr [2] 0), (5, .ptr [0, 56, 20] 0), (8, .ptr [1, 56, 20] 0), (26, .b false)] (b42_58 l r i o) 21 (by kernel_rfl) ?_ ?_
             ·exact trivial
             refine at_cond (b := false) rfl rfl (fun h => ?_) (fun h => ?_)
             ·cases h
             clear h
             refine at_skip ?_
             change AT _ _ _ _
             refine at_B [4, 5] [] [] [(1000000, .any), (4, .ptr [2] 0), (5, .ptr [0, 56, 20] 0)] (b42_52 l r i o) 24 (by kernel_rfl) ?_ ?_
             ·exact trivial
             refine at_B [4, 5, 40] [] [] [(1000000, .any), (4, .ptr [2] 0), (5, .ptr [0, 56, 20] 0), (40, .b ((decide ((l.getD i Sn.z).b = (-1))) || (decide (mx (l.getD i Sn.z).a r.a < (l.getD i Sn.z).b))))] (b42_52 l r i o) 34 (by kernel_rfl) ?_ ?_
             ·exact trivial
             refine at_cond (b := ((decide ((l.getD i Sn.z).b = (-1))) || (decide (mx (l.getD i Sn.z).a r.a < (l.getD i Sn.z).b)))) rfl rfl (fun h => ?_) (fun h => ?_)
             rotate_left
             ·exact absurd (h.symm.trans hs8) (by decide)
             clear h
             refine at_Bl [] [.std, .std, .eq (.tv (.sli 7 (([(a42_2 l r i)] : List _).map celS))), .eff (.sl [37, 56, 20] 7 0 ((o ++ [(a42_1 l r i)]) ++ [(a42_2 l r i)]).length) (.row (flat celS ((o ++ [(a42_1 l r i)]) ++ [(a42_2 l r i)])) false)] [(.tv (.sli 7 [[.int .i64 (mx (l.getD i Sn.z).a r.a), .int .i64 (l.getD i Sn.z).b, .int .i64 (a42_6 l r i), .str (a42_5 l r i), .int .i64 (a42_7 l r i), .int .i64 (a42_8 l r i), .sli 5 (a42_3 l r i)]]) : AV) = .tv (.sli 7 (([(a42_2 l r i)] : List _).map celS)), (7 = 7 ∧ 0 = 0 ∧ (flat celS (o ++ [(a42_1 l r i)])).length = (o ++ [(a42_1 l r i)]).length * 7 ∧ (o ++ [(a42_1 l r i)]).length + 1 ≤ 9223372036854775807 ∧ ((o ++ [(a42_1 l r i)]).length + 1) * 80 ≤ 140737488355328), (.sl [37, 56, 20] 7 0 ((o ++ [(a42_1 l r i)]).length + 1) : AV) = .sl [37, 56, 20] 7 0 ((o ++ [(a42_1 l r i)]) ++ [(a42_2 l r i)]).length, (.row ((flat celS (o ++ [(a42_1 l r i)])) ++ (List.map AV.tv (List.flatten (([(a42_2 l r i)] : List _).map celS)))) false : AO) = .row (flat celS ((o ++ [(a42_1 l r i)]) ++ [(a42_2 l r i)])) false] [(1000000, .any)] [(b42_34 o l r i), (b42_6 l r i), (b42_7 l i r), (b42_2 l r i), (b42_1 l i), (b42_32 o l r i), ([0], .row ((celR r).map .tv) false)] 39 (by kernel_rfl) ?_ ?_
             ·exact ⟨rfl, ⟨rfl, rfl, flat_len (sz := 7) (fun _ => rfl) _, by (try simp only [brs, lns] at *); omega, by (try simp only [brs, lns] at *); omega⟩, by simp, congrArg (AO.row · false) (flat_app (rfl)), trivial⟩
             exact fin_in (.inl rfl) [[37, 56, 20], [38, 20], [4, 20], [2], [0]] (.tup []) [(b42_34 o l r i), (b42_6 l r i), (b42_7 l i r), (b42_2 l r i), (b42_1 l i), (b42_32 o l r i), ([0], .row ((celR r).map .tv) false)] (by kernel_rfl) rfl (by kernel_rfl)
           change AT _ _ _ _
           refine at_Bl [3, 5, 6, 7, 21, 22, 23] [.eq (.i ((i + 1 : Nat) : Int))] [(.i (wr (((i : Nat) : Int) + 1)) : AV) = .i ((i + 1 : Nat) : Int)] [(1000000, .any), (3, .ptr [0] 0), (5, .ptr [2] 0), (6, .fn (.func 70) [.ptr [2] 0]), (7, .i (bif (!(daysP ([r.a, r.b]))) then 0 else r.kd)), (21, .tv (.sli 7 (l.map celS))), (22, .i (((l.map celS).length : Nat) : Int)), (23, .i ((i + 1 : Nat) : Int))] (b42_64 o l r i) 59 (by kernel_rfl) ?_ ?_
           ·exact ⟨succ_av i (by (try simp only [brs, lns] at *); omega), trivial⟩
           refine ⟨rfl, (i + 1, ((o ++ [(a42_1 l r i)]) ++ [(a42_2 l r i)])), ?_, ?_, ?_⟩
           ·(try dsimp only); omega
           ·(try dsimp only); exact ⟨by omega, by (try simp only [List.length_append, List.length_cons, List.length_nil]); omega, by (rw [← hx3, drop_get l i Sn.z (by omega), List.foldl_cons]; congr 1; simp only [stepP, hc24, hc36, hc45, hc47, hc58, hc69, hc87, cond_true, cond_false]; refine put_2 (put_yes hs6) ?_; first | exact put_yes hs8 | (show _ = putS _ _; rw [← put_yes hs8]; rfl))⟩
           ·exact rn_ok [([37, 56, 20], [0, 20]), ([2], [2]), ([0], [0])] [[37, 56, 20]] [3, 5, 6, 7, 21, 22, 23] (⟨clO_flat _ _ _, trivial⟩) (by kernel_rfl)
        ·skip
         cases hs9 : (((decide ((l.getD i Sn.z).b = (-1))) || (decide (mx (l.getD i Sn.z).a (l.getD i Sn.z).a < (l.getD i Sn.z).b))))
         ·have qhs9 := hs9
          (try simp only [brs] at qhs9)
          refine at_Bl [3, 5, 6, 7, 21, 22, 23] [.std, .std, .std, .std, .std, .std, .retH (.tup []) (b42_43 l i o r)] [CallOK Tryd.prog 70 [agS (l.getD i Sn.z), .i (l.getD i Sn.z).a, .i (-1), agF (l.getD i Sn.z).f, .ptr [2] 0] (b42_43 l i o r) [33, 20] (fun v1 H1 => v1 = (.tup []) ∧ H1 = (b42_43 l i o r))] [(1000000, .any), (3, .ptr [0] 0), (5, .ptr [2] 0), (6, .fn (.func 70) [.ptr [2] 0]), (7, .i (bif (!(daysP ([r.a, r.b]))) then 0 else r.kd)), (21, .tv (.sli 7 (l.map celS))), (22, .i (((l.map celS).length : Nat) : Int)), (23, .i ((i : Nat) : Int))] (b42_43 l i o r) 34 (by kernel_rfl) ?_ ?_
          ·refine ⟨?_, trivial⟩
           ·refine call_in (fn := Tryd.f70) [] Tryd.func70 rfl (by kernel_rfl) rfl ?_
            change AT _ _ _ ⟨[(0, agS (l.getD i Sn.z)), (1, .i (l.getD i Sn.z).a), (2, .i (-1)), (3, agF (l.getD i Sn.z).f), (4, .ptr [2] 0)], (b42_43 l i o r), [33, 20], 0⟩
            refine at_B [1, 2, 4, 5, 8] [] [] [(1000000, .any), (1, .i (l.getD i Sn.z).a), (2, .i (-1)), (4, .ptr [2] 0), (5, .ptr [0, 33, 20] 0), (8, .ptr [1, 33, 20] 0)] (b42_51 l i o r) 2 (by kernel_rfl) ?_ ?_
            ·exact trivial
            refine at_B [2, 4, 5, 8] [] [] [(1000000, .any), (2, .i (-1)), (4, .ptr [2] 0), (5, .ptr [0, 33, 20] 0), (8, .ptr [1, 33, 20] 0)] (b42_44 l i o r) 8 (by kernel_rfl) ?_ ?_
            ·exact trivial
            refine at_seq ?_
            refine at_B [2, 4, 5, 8, 26] [] [] [(1000000, .any), (2, .i (-1)), (4, .ptr [2] 0), (5, .ptr [0, 33, 20] 0), (8, .ptr [1, 33, 20] 0), (26, .b false)] (b42_44 l i o r) 21 (by kernel_rfl) ?_ ?_
            ·exact trivial
            refine at_cond (b := false) rfl rfl (fun h => ?_) (fun h => ?_)
            ·cases h
            clear h
            refine at_skip ?_
            change AT _ _ _ _
            refine at_B [4, 5] [] [] [(1000000, .any), (4, .ptr [2] 0), (5, .ptr [0, 33, 20] 0)] (b42_44 l i o r) 24 (by kernel_rfl) ?_ ?_
            ·exact trivial
            refine at_B [4, 5, 40] [] [] [(1000000, .any), (4, .ptr [2] 0), (5, .ptr [0, 33, 20] 0), (40, .b ((decide ((l.getD i Sn.z).b = (-1))) || (decide (mx (l.getD i Sn.z).a (l.getD i Sn.z).a < (l.getD i Sn.z).b))))] (b42_44 l i o r) 34 (by kernel_rfl) ?_ ?_
            ·exact trivial
            refine at_cond (b := ((decide ((l.getD i Sn.z).b = (-1))) || (decide (mx (l.getD i Sn.z).a (l.getD i Sn.z).a < (l.getD i Sn.z).b)))) rfl rfl (fun h => ?_) (fun h => ?_)
            ·exact absurd (h.symm.trans hs9) (by decide)
            clear h
            refine at_skip ?_
            exact fin_in (.inl rfl) [[4, 20], [0, 20], [2], [0]] (.tup []) (b42_44 l i o r) (by kernel_rfl) rfl (by kernel_rfl)
          change AT _ _ _ _
          refine at_Bl [3, 5, 6, 7, 21, 22, 23] [.eq (.i ((i + 1 : Nat) : Int))] [(.i (wr (((i : Nat) : Int) + 1)) : AV) = .i ((i + 1 : Nat) : Int)] [(1000000, .any), (3, .ptr [0] 0), (5, .ptr [2] 0), (6, .fn (.func 70) [.ptr [2] 0]), (7, .i (bif (!(daysP ([r.a, r.b]))) then 0 else r.kd)), (21, .tv (.sli 7 (l.map celS))), (22, .i (((l.map celS).length : Nat) : Int)), (23, .i ((i + 1 : Nat) : Int))] (b42_43 l i o r) 36 (by kernel_rfl) ?_ ?_
          ·exact ⟨succ_av i (by (try simp only [brs, lns] at *); omega), trivial⟩
          refine ⟨rfl, (i + 1, o), ?_, ?_, ?_⟩
          ·(try dsimp only); omega
          ·(try dsimp only); exact ⟨by omega, by (try simp only [List.length_append, List.length_cons, List.length_nil]); omega, by (rw [← hx3, drop_get l i Sn.z (by omega), List.foldl_cons]; congr 1; simp only [stepP, hc24, hc36, hc45, hc47, hc58, hc69, hc87, cond_true, cond_false]; exact put_no hs9)⟩
          ·exact rn_ok [([0, 20], [0, 20]), ([2], [2]), ([0], [0])] [[0, 20]] [3, 5, 6, 7, 21, 22, 23] (⟨clO_flat _ _ _, trivial⟩) (by kernel_rfl)
         ·have qhs9 := hs9
          (try simp only [brs] at qhs9)
          refine at_Bl [3, 5, 6, 7, 21, 22, 23] [.std, .std, .std, .std, .std, .std, .retH (.tup []) (b42_71 o l i r)] [CallOK Tryd.prog 70 [agS (l.getD i Sn.z), .i (l.getD i Sn.z).a, .i (-1), agF (l.getD i Sn.z).f, .ptr [2] 0] (b42_43 l i o r) [33, 20] (fun v1 H1 => v1 = (.tup []) ∧ H1 = (b42_71 o l i r))] [(1000000, .any), (3, .ptr [0] 0), (5, .ptr [2] 0), (6, .fn (.func 70) [.ptr [2] 0]), (7, .i (bif (!(daysP ([r.a, r.b]))) then 0 else r.kd)), (21, .tv (.sli 7 (l.map celS))), (22, .i (((l.map celS).length : Nat) : Int)), (23, .i ((i : Nat) : Int))] (b42_71 o l i r) 34 (by kernel_rfl) ?_ ?_
          ·refine ⟨?_, trivial⟩
           ·refine call_in (fn := Tryd.f70) [] Tryd.func70 rfl (by kernel_rfl) rfl ?_
            change AT _ _ _ ⟨[(0, agS (l.getD i Sn.z)), (1, .i (l.getD i Sn.z).a), (2, .i (-1)), (3, agF (l.getD i Sn.z).f), (4, .ptr [2] 0)], (b42_43 l i o r), [33, 20], 0⟩
            refine at_B [1, 2, 4, 5, 8] [] [] [(1000000, .any), (1, .i (l.getD i Sn.z).a), (2, .i (-1)), (4, .ptr [2] 0), (5, .ptr [0, 33, 20] 0), (8, .ptr [1, 33, 20] 0)] (b42_51 l i o r) 2 (by kernel_rfl) ?_ ?_
            ·exact trivial
            refine at_B [2, 4, 5, 8] [] [] [(1000000, .any), (2, .i (-1)), (4, .ptr [2] 0), (5, .ptr [0, 33, 20] 0), (8, .ptr [1, 33, 20] 0)] (b42_44 l i o r) 8 (by kernel_rfl) ?_ ?_
            ·exact trivial
            refine at_seq ?_
            refine at_B [2, 4, 5, 8, 26] [] [] [(1000000, .any), (2, .i (-1)), (4, .ptr [2] 0), (5, .ptr [0, 33, 20] 0), (8, .ptr [1, 33, 20] 0), (26, .b false)] (b42_44 l i o r) 21 (by kernel_rfl) ?_ ?_
            ·exact trivial
            refine at_cond (b := false) rfl rfl (fun h => ?_) (fun h => ?_)
            ·cases h
            clear h
            refine at_skip ?_
            change AT _ _ _ _
            refine at_B [4, 5] [] [] [(1000000, .any), (4, .ptr [2] 0), (5, .ptr [0, 33, 20] 0)] (b42_44 l i o r) 24 (by kernel_rfl) ?_ ?_
            ·exact trivial
            refine at_B [4, 5, 40] [] [] [(1000000, .any), (4, .ptr [2] 0), (5, .ptr [0, 33, 20] 0), (40, .b ((decide ((l.getD i Sn.z).b = (-1))) || (decide (mx (l.getD i Sn.z).a (l.getD i Sn.z).a < (l.getD i Sn.z).b))))] (b42_44 l i o r) 34 (by kernel_rfl) ?_ ?_
            ·exact trivial
            refine at_cond (b := ((decide ((l.getD i Sn.z).b = (-1))) || (decide (mx (l.getD i Sn.z).a (l.getD i Sn.z).a < (l.getD i Sn.z).b)))) rfl rfl (fun h => ?_) (fun h => ?_)
            rotate_left
            ·exact absurd (h.symm.trans hs9) (by decide)
            clear h
            refine at_Bl [] [.std, .std, .eq (.tv (.sli 7 (([(a42_11 l i)] : List _).map celS))), .eff (.sl [37, 33, 20] 7 0 (o ++ [(a42_11 l i)]).length) (.row (flat celS (o ++ [(a42_11 l i)])) false)] [(.tv (.sli 7 [[.int .i64 (mx (l.getD i Sn.z).a (l.getD i Sn.z).a), .int .i64 (l.getD i Sn.z).b, .int .i64 (l.getD i Sn.z).f.op, .str (l.getD i Sn.z).f.nm, .int .i64 (l.getD i Sn.z).f.cm, .int .i64 (l.getD i Sn.z).f.n, .sli 5 ((l.getD i Sn.z).f.ks.map encF)]]) : AV) = .tv (.sli 7 (([(a42_11 l i)] : List _).map celS)), (7 = 7 ∧ 0 = 0 ∧ (flat celS o).length = o.length * 7 ∧ o.length + 1 ≤ 9223372036854775807 ∧ (o.length + 1) * 80 ≤ 140737488355328), (.sl [37, 33, 20] 7 0 (o.length + 1) : AV) = .sl [37, 33, 20] 7 0 (o ++ [(a42_11 l i)]).length, (.row ((flat celS o) ++ (List.map AV.tv (List.flatten (([(a42_11 l i)] : List _).map celS)))) false : AO) = .row (flat celS (o ++ [(a42_11 l i)])) false] [(1000000, .any)] [(b42_42 o l i), (b42_14 l i), (b42_5 l i), (b42_1 l i), (b42_38 o l i), ([0], .row ((celR r).map .tv) false)] 39 (by kernel_rfl) ?_ ?_
            ·exact ⟨rfl, ⟨rfl, rfl, flat_len (sz := 7) (fun _ => rfl) _, by (try simp only [brs, lns] at *); omega, by (try simp only [brs, lns] at *); omega⟩, by simp, congrArg (AO.row · false) (flat_app (rfl)), trivial⟩
            exact fin_in (.inl rfl) [[37, 33, 20], [4, 20], [2], [0]] (.tup []) [(b42_42 o l i), (b42_14 l i), (b42_5 l i), (b42_1 l i), (b42_38 o l i), ([0], .row ((celR r).map .tv) false)] (by kernel_rfl) rfl (by kernel_rfl)
          change AT _ _ _ _
          refine at_Bl [3, 5, 6, 7, 21, 22, 23] [.eq (.i ((i + 1 : Nat) : Int))] [(.i (wr (((i : Nat) : Int) + 1)) : AV) = .i ((i + 1 : Nat) : Int)] [(1000000, .any), (3, .ptr [0] 0), (5, .ptr [2] 0), (6, .fn (.func 70) [.ptr [2] 0]), (7, .i (bif (!(daysP ([r.a, r.b]))) then 0 else r.kd)), (21, .tv (.sli 7 (l.map celS))), (22, .i (((l.map celS).length : Nat) : Int)), (23, .i ((i + 1 : Nat) : Int))] (b42_71 o l i r) 36 (by kernel_rfl) ?_ ?_
          ·exact ⟨succ_av i (by (try simp only [brs, lns] at *); omega), trivial⟩
          refine ⟨rfl, (i + 1, (o ++ [(a42_11 l i)])), ?_, ?_, ?_⟩
          ·(try dsimp only); omega
          ·(try dsimp only); exact ⟨by omega, by (try simp only [List.length_append, List.length_cons, List.length_nil]); omega, by (rw [← hx3, drop_get l i Sn.z (by omega), List.foldl_cons]; congr 1; simp only [stepP, hc24, hc36, hc45, hc47, hc58, hc69, hc87, cond_true, cond_false]; exact put_yes hs9)⟩
          ·exact rn_ok [([37, 33, 20], [0, 20]), ([2], [2]), ([0], [0])] [[37, 33, 20]] [3, 5, 6, 7, 21, 22, 23] (⟨clO_flat _ _ _, trivial⟩) (by kernel_rfl)
  ·have q24 := hc24
   (try simp only [brs] at q24)
   refine at_exit ?_
   change AT _ _ _ _
   refine at_B [4] [] [] [(1000000, .any), (4, .sl [0, 20] 7 0 o.length)] (b42_70 o r) 23 (by kernel_rfl) ?_ ?_
   ·exact trivial
   refine at_ret ?_
   refine fin0 (.inr rfl) (.sl [0, 20] 7 0 o.length) (b42_70 o r) (.tv (.sli 7 (o.map celS))) (by kernel_rfl) (frzR_one (frz_flat (enc := celS) (l := o) (sz := 7) rfl (fun _ => rfl) (by decide))) ?_
   refine Le.of_eq ?_
   have he : l.length ≤ i := by omega
   rw [List.drop_of_length_le he] at hx3
   rw [← hx3]; rfl
end Go.Proofs.YtphmhelkojdlaaaDoor
