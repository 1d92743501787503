/- Part M3 of the proof. -/
import Derived.Test.YtphmhelkojdlaaaDoorProg
import Derived.Test.YtphmhelkojdlaaaDoorM2
namespace Go.Proofs.YtphmhelkojdlaaaDoor
abbrev AV.i (n : Int) : AV := .tv (.int .i64 n)
abbrev AV.b (x : Bool) : AV := .tv (.bool x)
open Go.RowKit
set_option linter.unusedSimpArgs false
set_option linter.unusedVariables false
theorem i64_fit (n : Int) (h : -9223372036854775808 ≤ n ∧ n ≤ 9223372036854775807) : IntKind.i64.wrap n = n := by rw [IntKind.wrap_i64]; omega
abbrev wr (n : Int) : Int := IntKind.i64.wrap n
abbrev wk (k : IntKind) (n : Int) : Int := k.wrap n
abbrev mx (a b : Int) : Int := if b > a then b else a
theorem wr_fit (n : Int) (h : -9223372036854775808 ≤ n ∧ n ≤ 9223372036854775807) : wr n = n := i64_fit n h
theorem succ_av (i : Nat) (h : i < 9223372036854775807) : AV.i (wr ((i : Int) + 1)) = .i ((i + 1 : Nat) : Int) := by
 rw [wr_fit _ (by omega)]; rfl
theorem fit_av (n : Int) (h : -9223372036854775808 ≤ n ∧ n ≤ 9223372036854775807) : AV.i (wr n) = .i n := by rw [wr_fit n h]
/-- Rules by which a side condition is brought down to numbers. -/
theorem brs : (∀ {α β : Type} (f : α → β) (l : List α), (l.map f).length = l.length) ∧ (∀ a b : Bool, ((a && b) = true) = (a = true ∧ b = true)) ∧ (∀ a b : Bool, ((a || b) = true) = (a = true ∨ b = true)) ∧ (∀ b : Bool, ((!b) = true) = (b = false)) ∧
  (∀ (p : Prop) [Decidable p], (decide p = true) = p) ∧ (∀ (p : Prop) [Decidable p], (decide p = false) ↔ ¬ p) ∧ (∀ a b : Bool, ((a && b) = false) ↔ (a = false ∨ b = false)) ∧ (∀ a b : Bool, ((a || b) = false) ↔ (a = false ∧ b = false)) ∧ (∀ b : Bool, ((!b) = false) = (b = true)) :=
 ⟨fun f l => List.length_map f, fun a b => Bool.and_eq_true a b, fun a b => Bool.or_eq_true a b, fun b => Bool.not_eq_true' b, fun p _ => decide_eq_true_eq, fun p _ => decide_eq_false_iff_not, fun a b => Bool.and_eq_false_iff, fun a b => Bool.or_eq_false_iff, fun b => Bool.not_eq_false' b⟩
theorem lns : (∀ {α : Type} (a b : List α), (a ++ b).length = a.length + b.length) ∧ (∀ {α : Type} (x : α) (l : List α), (x :: l).length = l.length + 1) ∧ (∀ {α : Type}, ([] : List α).length = 0) ∧ (∀ {α : Type} (l : List α) (i : Nat) (x : α), (l.set i x).length = l.length) ∧ (∀ {α β : Type} (f : α → β) (l : List α), (l.map f).length = l.length) ∧ (∀ {α : Type} (l : List α), l.reverse.length = l.length) :=
 ⟨fun a b => List.length_append, fun x l => List.length_cons, List.length_nil, fun l i x => List.length_set, fun f l => List.length_map f, fun l => List.length_reverse⟩
def encI (n : Int) : List TV := [.int .i64 n]
def encStr (s : ByteArray) : List TV := [.str s]
/-- Formulas. -/
inductive Fm where
 | mk (op : Int) (nm : ByteArray) (cm n : Int) (ks : List Fm)
def Fm.op : Fm → Int | .mk o _ _ _ _ => o
def Fm.nm : Fm → ByteArray | .mk _ o _ _ _ => o
def Fm.cm : Fm → Int | .mk _ _ o _ _ => o
def Fm.n : Fm → Int | .mk _ _ _ o _ => o
def Fm.ks : Fm → List Fm | .mk _ _ _ _ o => o
def Fm.z : Fm := .mk 0 ByteArray.empty 0 0 []
theorem Fm.eta (f : Fm) : Fm.mk f.op f.nm f.cm f.n f.ks = f := by cases f; rfl
theorem Fm.ind {p : Fm → Prop} (h : ∀ f, (∀ k, k ∈ f.ks → p k) → p f) : ∀ f, p f
 | .mk o nm c n ks => h _ fun k hk => Fm.ind h k
 termination_by f => SizeOf.sizeOf f
 decreasing_by
 have := List.sizeOf_lt_of_mem hk
 simp only [Fm.ks] at this
 simp
 omega
mutual
def encF : Fm → List TV
 | .mk op nm c n ks => [.int .i64 op, .str nm, .int .i64 c, .int .i64 n, .sli 5 (encFs ks)]
def encFs : List Fm → List (List TV)
 | [] => []
 | k :: r => encF k :: encFs r
end
theorem encFs_map (ks : List Fm) : encFs ks = ks.map encF := by
 induction ks with
 | nil => rfl
 | cons k r ih => simp only [encFs, ih, List.map_cons]
def celF (f : Fm) : List TV := [.int .i64 f.op, .str f.nm, .int .i64 f.cm, .int .i64 f.n, .sli 5 (f.ks.map encF)]
theorem encF_eq (f : Fm) : encF f = celF f := by cases f; simp only [encF, celF, encFs_map, Fm.op, Fm.nm, Fm.cm, Fm.n, Fm.ks]
theorem encF_len (f : Fm) : (encF f).length = 5 := by rw [encF_eq]; rfl
def agF (f : Fm) : AV := .agg ((celF f).map .tv)
theorem agg_cell {σ : Facts} {ι : Where} {cs : List AV} {u : Value} (h : VR σ ι (.agg cs) u) (j : Nat) {c : AV} (hc : cs[j]? = some c) : ∃ x, VR σ ι c x := by
 cases h with
 | agg _ us hl hv =>
  have hj : j < us.length := by rw [hl]; exact (List.getElem?_eq_some_iff.1 hc).1
  exact ⟨us[j], hv j c us[j] hc (by simp [hj])⟩
theorem at_agF {E : En} {Q : Exit → St → Prop} {s : St} {c : Code} (t : Nat) {f : Fm} (ht : tget s.T t = agF f) (h : (f.ks.map encF).length ≤ 9223372036854775807 → AT E c Q s) : AT E c Q s :=
 at_fact _ (fun _ _ _ _ _ _ _ _ ⟨_, _, hs⟩ => by
  have := hs.tr t
  rw [ht] at this
  obtain ⟨x, hx⟩ := agg_cell (cs := (celF f).map .tv) this 4 rfl
  exact tr_len hx) h
theorem row_F (l : List Fm) (i : Int) (h : 0 ≤ i ∧ i < ((l.map encF).length : Int)) : rowAt (l.map encF) i = celF (l.getD i.toNat Fm.z) := by
 rw [row_enc encF l i Fm.z h, encF_eq]
theorem getD_mem {α : Type} {l : List α} {i : Nat} {d : α} (h : i < l.length) : l.getD i d ∈ l := by
 rw [List.getD_eq_getElem?_getD, List.getElem?_eq_getElem h]; exact List.getElem_mem h
theorem drop_get {α : Type} (l : List α) (x : Nat) (d : α) (h : x < l.length) : l.drop x = l.getD x d :: l.drop (x + 1) := by
 rw [List.drop_eq_getElem_cons h, List.getD_eq_getElem?_getD, List.getElem?_eq_getElem h]; rfl
theorem getD_drop {α : Type} (l : List α) (i : Nat) (d : α) : (l.drop i).getD 0 d = l.getD i d := by
 simp [List.getD_eq_getElem?_getD, List.getElem?_drop]
/-- Spans. -/
structure Sn where
 a : Int
 b : Int
 f : Fm
def Sn.z : Sn := ⟨0, 0, Fm.z⟩
def celS (s : Sn) : List TV := [.int .i64 s.a, .int .i64 s.b, .int .i64 s.f.op, .str s.f.nm, .int .i64 s.f.cm, .int .i64 s.f.n, .sli 5 (s.f.ks.map encF)]
def agS (s : Sn) : AV := .agg ((celS s).map .tv)
theorem row_S (l : List Sn) (i : Int) (h : 0 ≤ i ∧ i < ((l.map celS).length : Int)) : rowAt (l.map celS) i = celS (l.getD i.toNat Sn.z) := row_enc celS l i _ h
/-- Rulings. -/
structure Ru where
 id : ByteArray
 tg : ByteArray
 kd : Int
 a : Int
 b : Int
 f : Fm
 kn : Int
 fin : Bool
 lf : ByteArray
def Ru.z : Ru := ⟨ByteArray.empty, ByteArray.empty, 0, 0, 0, Fm.z, 0, false, ByteArray.empty⟩
def celR (r : Ru) : List TV := [.str r.id, .str r.tg, .int .i64 r.kd, .int .i64 r.a, .int .i64 r.b, .int .i64 r.f.op, .str r.f.nm, .int .i64 r.f.cm, .int .i64 r.f.n, .sli 5 (r.f.ks.map encF), .int .i64 r.kn, .bool r.fin, .str r.lf]
def agR (r : Ru) : AV := .agg ((celR r).map .tv)
theorem row_R (l : List Ru) (i : Int) (h : 0 ≤ i ∧ i < ((l.map celR).length : Int)) : rowAt (l.map celR) i = celR (l.getD i.toNat Ru.z) := row_enc celR l i _ h
end Go.Proofs.YtphmhelkojdlaaaDoor
namespace Go.Proofs.YtphmhelkojdlaaaDoor
open Go.RowKit
set_option linter.unusedSimpArgs false
set_option linter.unusedVariables false
def letterC (c : Int) : Bool := (decide (97 ≤ c) && decide (c ≤ 122)) || (decide (65 ≤ c) && decide (c ≤ 90))
mutual
/-- Size and depth, as they are counted. -/
def szF : Fm → Int × Int
 | .mk _ _ _ _ ks => ((szFs ks 1 0).1, wr ((szFs ks 1 0).2 + 1))
def szFs : List Fm → Int → Int → Int × Int
 | [], a, d => (a, d)
 | k :: r, a, d => szFs r (wr (a + (szF k).1)) (mx d (szF k).2)
end
theorem szF_eq (f : Fm) : szF f = ((szFs f.ks 1 0).1, wr ((szFs f.ks 1 0).2 + 1)) := by cases f; rfl
mutual
def sameF : Fm → Fm → Bool
 | .mk o nm c n ks, g => (decide (o = g.op) && decide (nm = g.nm) && decide (c = g.cm) && decide (n = g.n) && decide (ks.length = g.ks.length)) && sameFs ks g.ks
def sameFs : List Fm → List Fm → Bool
 | [], _ => true
 | k :: r, l => sameF k (l.getD 0 Fm.z) && sameFs r (l.drop 1)
end
theorem sameF_eq (f g : Fm) : sameF f g = ((decide (f.op = g.op) && decide (f.nm = g.nm) && decide (f.cm = g.cm) && decide (f.n = g.n) && decide (f.ks.length = g.ks.length)) && sameFs f.ks g.ks) := by cases f; rfl
mutual
/-- The nodes, counted until there are too many. -/
def cntF : Fm → Int → Int
 | .mk _ _ _ _ ks, m => cntFs ks m 1
def cntFs : List Fm → Int → Int → Int
 | [], _, c => c
 | k :: r, m, c => if c ≤ m then cntFs r m (wr (c + cntF k (wr (m - c)))) else c
end
theorem cntF_eq (f : Fm) (m : Int) : cntF f m = cntFs f.ks m 1 := by cases f; rfl
end Go.Proofs.YtphmhelkojdlaaaDoor
namespace Go.Proofs.YtphmhelkojdlaaaDoor
open Go.RowKit
set_option linter.unusedSimpArgs false
set_option linter.unusedVariables false
structure Fc where
 nm : ByteArray
 kd : Int
 lo : Int
 hi : Int
def Fc.z : Fc := ⟨ByteArray.empty, 0, 0, 0⟩
def celC (c : Fc) : List TV := [.str c.nm, .int .i64 c.kd, .int .i64 c.lo, .int .i64 c.hi]
def agC (c : Fc) : AV := .agg ((celC c).map .tv)
theorem row_C (l : List Fc) (i : Int) (h : 0 ≤ i ∧ i < ((l.map celC).length : Int)) : rowAt (l.map celC) i = celC (l.getD i.toNat Fc.z) := row_enc celC l i _ h
structure Dm where
 fs : List Fc
def Dm.z : Dm := ⟨[]⟩
def celD (d : Dm) : List TV := [.sli 4 (d.fs.map celC)]
def agD (d : Dm) : AV := .agg ((celD d).map .tv)
theorem at_agD {E : En} {Q : Exit → St → Prop} {s : St} {c : Code} (t : Nat) {d : Dm} (ht : tget s.T t = agD d) (h : (d.fs.map celC).length ≤ 9223372036854775807 → AT E c Q s) : AT E c Q s :=
 at_fact _ (fun _ _ _ _ _ _ _ _ ⟨_, _, hs⟩ => by
  have := hs.tr t
  rw [ht] at this
  obtain ⟨x, hx⟩ := agg_cell (cs := (celD d).map .tv) this 0 rfl
  exact tr_len hx) h
end Go.Proofs.YtphmhelkojdlaaaDoor
namespace Go.Proofs.YtphmhelkojdlaaaDoor
open Go.RowKit
set_option maxRecDepth 10000
set_option linter.unusedSimpArgs false
set_option linter.unusedVariables false
noncomputable abbrev b14_1 (f : Fm) (i : Nat) : Id × AO := ([3, 9], .row ((celF (f.ks.getD i Fm.z)).map .tv) false)
noncomputable abbrev b14_2 (f : Fm) (i : Nat) : Hp := [(b14_1 f i), ([0], .row ((celF f).map .tv) false)]
theorem c14 : ∀ (f : Fm), PureCall Tryd.prog 14 [agF f] (.tup [.i ((szF f).1), .i ((szF f).2)]) := by
 refine Fm.ind (fun f ih => ?_)
 refine walk0 (fn := Tryd.f14) [.tmp 2, .tmp 3] Tryd.func14 rfl (by kernel_rfl) rfl (by kernel_rfl) (by kernel_rfl) ?_
 change AT _ _ _ ⟨[(0, agF f)], [], [], 0⟩
 refine at_B [1] [] [] [(1000000, .any), (1, .ptr [0] 0)] [([0], .row ((celF f).map .tv) false)] 3 (by kernel_rfl) ?_ ?_
 ·exact trivial
 refine at_B [1, 4, 5] [] [] [(1000000, .any), (1, .ptr [0] 0), (4, .i 1), (5, .i 0)] [([0], .row ((celF f).map .tv) false)] 5 (by kernel_rfl) ?_ ?_
 ·exact trivial
 refine at_seq ?_
 refine at_B [4, 5, 11, 12, 13] [] [] [(1000000, .any), (4, .i 1), (5, .i 0), (11, .tv (.sli 5 (f.ks.map encF))), (12, .i (((f.ks.map encF).length : Nat) : Int)), (13, .i 0)] [([0], .row ((celF f).map .tv) false)] 9 (by kernel_rfl) ?_ ?_
 ·exact trivial
 refine at_block ?_
 refine at_len 11 rfl (fun hlen => ?_)
 refine at_loopR (X := Nat × Int × Int) 0 (fun ((i, a, d) : Nat × Int × Int) => [(1000000, .any), (4, .i a), (5, .i d), (11, .tv (.sli 5 (f.ks.map encF))), (12, .i (((f.ks.map encF).length : Nat) : Int)), (13, .i ((i : Nat) : Int))]) (fun ((i, a, d) : Nat × Int × Int) => [([0], .row ((celF f).map .tv) false)]) (fun ((i, a, d) : Nat × Int × Int) => i ≤ f.ks.length ∧ szFs (f.ks.drop i) a d = szFs f.ks 1 0) (fun ((i, a, d) : Nat × Int × Int) => f.ks.length - i) (0, 1, 0) ?_ ?_ ?_
 ·exact ⟨Nat.zero_le _, rfl⟩
 ·exact rn_ok [([0], [0])] [] [4, 5, 11, 12, 13] (trivial) (by kernel_rfl)
 ·rintro ⟨i, a, d⟩ hinv
  dsimp only at hinv ⊢
  obtain ⟨hx1, hx2⟩ := hinv
  refine at_B [4, 5, 11, 12, 13, 14] [] [] [(1000000, .any), (4, .i a), (5, .i d), (11, .tv (.sli 5 (f.ks.map encF))), (12, .i (((f.ks.map encF).length : Nat) : Int)), (13, .i ((i : Nat) : Int)), (14, .b (decide (((i : Nat) : Int) < (((f.ks.map encF).length : Nat) : Int))))] [([0], .row ((celF f).map .tv) false)] 1 (by kernel_rfl) ?_ ?_
  ·exact trivial
  refine at_seq ?_
  refine at_cond (b := (decide (((i : Nat) : Int) < (((f.ks.map encF).length : Nat) : Int)))) rfl rfl (fun hc14 => ?_) (fun hc14 => ?_)
  ·have q14 := hc14
   (try simp only [brs] at q14)
   refine at_skip ?_
   change AT _ _ _ _
   refine at_seq ?_
   refine at_block ?_
   refine at_B [4, 5, 7, 11, 12, 13] [.eq (.tv (.ptr (celF (f.ks.getD i Fm.z))))] [(0 ≤ ((i : Nat) : Int) ∧ ((i : Nat) : Int) < ((((f.ks.map encF) : List (List TV)).length : Nat) : Int)), (.tv (.ptr (rowAt (f.ks.map encF) ((i : Nat) : Int))) : AV) = .tv (.ptr (celF (f.ks.getD i Fm.z)))] [(1000000, .any), (4, .i a), (5, .i d), (7, .ptr [3, 9] 0), (11, .tv (.sli 5 (f.ks.map encF))), (12, .i (((f.ks.map encF).length : Nat) : Int)), (13, .i ((i : Nat) : Int))] (b14_2 f i) 5 (by kernel_rfl) ?_ ?_
   ·exact ⟨by (try simp only [lns] at *); omega, congrArg (fun c => AV.tv (.ptr c)) (row_F f.ks ((i : Nat) : Int) (by (try simp only [brs, lns] at *); omega)), trivial⟩
   refine at_B [4, 5, 8, 9, 11, 12, 13] [.std, .ret (.tup [.i ((szF (f.ks.getD i Fm.z)).1), .i ((szF (f.ks.getD i Fm.z)).2)])] [PureCall Tryd.prog 14 [agF (f.ks.getD i Fm.z)] (.tup [.i ((szF (f.ks.getD i Fm.z)).1), .i ((szF (f.ks.getD i Fm.z)).2)])] [(1000000, .any), (4, .i a), (5, .i d), (8, .i ((szF (f.ks.getD i Fm.z)).1)), (9, .i ((szF (f.ks.getD i Fm.z)).2)), (11, .tv (.sli 5 (f.ks.map encF))), (12, .i (((f.ks.map encF).length : Nat) : Int)), (13, .i ((i : Nat) : Int))] (b14_2 f i) 12 (by kernel_rfl) ?_ ?_
   ·exact ⟨(ih _ (getD_mem (by omega))), trivial⟩
   refine at_B [4, 5, 9, 11, 12, 13] [] [] [(1000000, .any), (4, .i (wr (a + ((szF (f.ks.getD i Fm.z)).1)))), (5, .i d), (9, .i ((szF (f.ks.getD i Fm.z)).2)), (11, .tv (.sli 5 (f.ks.map encF))), (12, .i (((f.ks.map encF).length : Nat) : Int)), (13, .i ((i : Nat) : Int))] (b14_2 f i) 16 (by kernel_rfl) ?_ ?_
   ·exact trivial
   refine at_Bl [4, 5, 11, 12, 13] [] [] [(1000000, .any), (4, .i (wr (a + ((szF (f.ks.getD i Fm.z)).1)))), (5, .i (mx d ((szF (f.ks.getD i Fm.z)).2))), (11, .tv (.sli 5 (f.ks.map encF))), (12, .i (((f.ks.map encF).length : Nat) : Int)), (13, .i ((i : Nat) : Int))] (b14_2 f i) 20 (by kernel_rfl) ?_ ?_
   ·exact trivial
   change AT _ _ _ _
   refine at_Bl [4, 5, 11, 12, 13] [.eq (.i ((i + 1 : Nat) : Int))] [(.i (wr (((i : Nat) : Int) + 1)) : AV) = .i ((i + 1 : Nat) : Int)] [(1000000, .any), (4, .i (wr (a + ((szF (f.ks.getD i Fm.z)).1)))), (5, .i (mx d ((szF (f.ks.getD i Fm.z)).2))), (11, .tv (.sli 5 (f.ks.map encF))), (12, .i (((f.ks.map encF).length : Nat) : Int)), (13, .i ((i + 1 : Nat) : Int))] (b14_2 f i) 22 (by kernel_rfl) ?_ ?_
   ·exact ⟨succ_av i (by (try simp only [lns] at *); omega), trivial⟩
   refine ⟨rfl, (i + 1, wr (a + ((szF (f.ks.getD i Fm.z)).1)), mx d ((szF (f.ks.getD i Fm.z)).2)), ?_, ?_, ?_⟩
   ·(try dsimp only); omega
   ·(try dsimp only); exact ⟨by omega, by rw [← hx2, drop_get f.ks i Fm.z (by omega), szFs]⟩
   ·exact rn_ok [([0], [0])] [] [4, 5, 11, 12, 13] (trivial) (by kernel_rfl)
  ·have q14 := hc14
   (try simp only [brs] at q14)
   refine at_exit ?_
   change AT _ _ _ _
   refine at_B [2, 3] [] [] [(1000000, .any), (2, .i a), (3, .i (wr (d + 1)))] [([0], .row ((celF f).map .tv) false)] 15 (by kernel_rfl) ?_ ?_
   ·exact trivial
   refine at_ret ?_
   refine fin0 (.inr rfl) (.tup [.i a, .i (wr (d + 1))]) [([0], .row ((celF f).map .tv) false)] (.tup [.i a, .i (wr (d + 1))]) (H2 := [([0], .row ((celF f).map .tv) false)]) (by kernel_rfl) (by kernel_rfl) ?_
   refine Le.of_eq ?_
   rw [szF_eq, ← hx2, List.drop_of_length_le (by omega)]; rfl
theorem c43 : ∀ (f : Fm) (m : Int), PureCall Tryd.prog 43 [agF f, .i m] (.i (cntF f m)) := by
 refine Fm.ind (fun f ih => ?_)
 intro m
 refine walk0 (fn := Tryd.f43) [.tmp 4] Tryd.func43 rfl (by kernel_rfl) rfl (by kernel_rfl) (by kernel_rfl) ?_
 change AT _ _ _ ⟨[(0, agF f), (1, .i m)], [], [], 0⟩
 refine at_agF 0 rfl (fun hlen => ?_)
 refine at_B [1, 2] [] [] [(1000000, .any), (1, .i m), (2, .ptr [0] 0)] [([0], .row ((celF f).map .tv) false)] 2 (by kernel_rfl) ?_ ?_
 ·exact trivial
 refine at_B [1, 2, 5] [] [] [(1000000, .any), (1, .i m), (2, .ptr [0] 0), (5, .i 1)] [([0], .row ((celF f).map .tv) false)] 3 (by kernel_rfl) ?_ ?_
 ·exact trivial
 refine at_seq ?_
 refine at_B [1, 2, 5, 6] [] [] [(1000000, .any), (1, .i m), (2, .ptr [0] 0), (5, .i 1), (6, .i 0)] [([0], .row ((celF f).map .tv) false)] 4 (by kernel_rfl) ?_ ?_
 ·exact trivial
 refine at_block ?_
 refine at_loopR (X := Nat × Int) 0 (fun ((i, c) : Nat × Int) => [(1000000, .any), (1, .i m), (2, .ptr [0] 0), (5, .i c), (6, .i ((i : Nat) : Int))]) (fun ((i, c) : Nat × Int) => [([0], .row ((celF f).map .tv) false)]) (fun ((i, c) : Nat × Int) => i ≤ f.ks.length ∧ cntFs (f.ks.drop i) m c = cntFs f.ks m 1) (fun ((i, c) : Nat × Int) => f.ks.length - i) (0, 1) ?_ ?_ ?_
 ·exact ⟨Nat.zero_le _, rfl⟩
 ·exact rn_ok [([0], [0])] [] [1, 2, 5, 6] (trivial) (by kernel_rfl)
 ·rintro ⟨i, c⟩ hinv
  dsimp only at hinv ⊢
  obtain ⟨hx1, hx2⟩ := hinv
  refine at_seq ?_
  refine at_B [1, 2, 5, 6, 16] [] [] [(1000000, .any), (1, .i m), (2, .ptr [0] 0), (5, .i c), (6, .i ((i : Nat) : Int)), (16, .b ((decide (((i : Nat) : Int) < (((f.ks.map encF).length : Nat) : Int))) && (decide (c ≤ m))))] [([0], .row ((celF f).map .tv) false)] 10 (by kernel_rfl) ?_ ?_
  ·exact trivial
  refine at_cond (b := ((decide (((i : Nat) : Int) < (((f.ks.map encF).length : Nat) : Int))) && (decide (c ≤ m)))) rfl rfl (fun hc16 => ?_) (fun hc16 => ?_)
  ·have q16 := hc16
   (try simp only [brs] at q16)
   refine at_skip ?_
   change AT _ _ _ _
   refine at_seq ?_
   refine at_block ?_
   refine at_Bl [1, 2, 5, 6] [.std, .std, .std, .std, .eq (.tv (.ptr (celF (f.ks.getD i Fm.z)))), .std, .std, .std, .std, .ret (.i (cntF (f.ks.getD i Fm.z) (wr (m - c))))] [(0 ≤ ((i : Nat) : Int) ∧ ((i : Nat) : Int) < ((((f.ks.map encF) : List (List TV)).length : Nat) : Int)), (.tv (.ptr (rowAt (f.ks.map encF) ((i : Nat) : Int))) : AV) = .tv (.ptr (celF (f.ks.getD i Fm.z))), PureCall Tryd.prog 43 [agF (f.ks.getD i Fm.z), .i (wr (m - c))] (.i (cntF (f.ks.getD i Fm.z) (wr (m - c))))] [(1000000, .any), (1, .i m), (2, .ptr [0] 0), (5, .i (wr (c + (cntF (f.ks.getD i Fm.z) (wr (m - c)))))), (6, .i ((i : Nat) : Int))] [([0], .row ((celF f).map .tv) false)] 22 (by kernel_rfl) ?_ ?_
   ·exact ⟨by (try simp only [lns] at *); omega, congrArg (fun c => AV.tv (.ptr c)) (row_F f.ks ((i : Nat) : Int) (by (try simp only [brs, lns] at *); omega)), (ih _ (getD_mem (by omega)) _), trivial⟩
   change AT _ _ _ _
   refine at_Bl [1, 2, 5, 6] [.std, .eq (.i ((i + 1 : Nat) : Int))] [(.i (wr (((i : Nat) : Int) + 1)) : AV) = .i ((i + 1 : Nat) : Int)] [(1000000, .any), (1, .i m), (2, .ptr [0] 0), (5, .i (wr (c + (cntF (f.ks.getD i Fm.z) (wr (m - c)))))), (6, .i ((i + 1 : Nat) : Int))] [([0], .row ((celF f).map .tv) false)] 25 (by kernel_rfl) ?_ ?_
   ·exact ⟨succ_av i (by (try simp only [lns] at *); omega), trivial⟩
   refine ⟨rfl, (i + 1, wr (c + (cntF (f.ks.getD i Fm.z) (wr (m - c))))), ?_, ?_, ?_⟩
   ·(try dsimp only); omega
   ·(try dsimp only); exact ⟨by omega, by rw [← hx2, drop_get f.ks i Fm.z (by omega), cntFs, if_pos q16.2]⟩
   ·exact rn_ok [([0], [0])] [] [1, 2, 5, 6] (trivial) (by kernel_rfl)
  ·have q16 := hc16
   (try simp only [brs] at q16)
   refine at_exit ?_
   change AT _ _ _ _
   refine at_B [4] [] [] [(1000000, .any), (4, .i c)] [([0], .row ((celF f).map .tv) false)] 7 (by kernel_rfl) ?_ ?_
   ·exact trivial
   refine at_ret ?_
   refine fin0 (.inr rfl) (.i c) [([0], .row ((celF f).map .tv) false)] (.i c) (H2 := [([0], .row ((celF f).map .tv) false)]) (by kernel_rfl) (by kernel_rfl) ?_
   refine Le.of_eq ?_
   rw [cntF_eq, ← hx2]
   by_cases e : i < f.ks.length
   ·rw [drop_get f.ks i Fm.z e, cntFs, if_neg (by rcases q16 with q | q <;> omega)]
   ·rw [List.drop_of_length_le (by omega), cntFs]
theorem c12 (f : Fm) (m : Int)  : PureCall Tryd.prog 12 [agF f, .i m] (.b (decide (cntF f m ≤ m))) := by
 refine walk0 (fn := Tryd.f12) [.tmp 4] Tryd.func12 rfl (by kernel_rfl) rfl (by kernel_rfl) (by kernel_rfl) ?_
 change AT _ _ _ ⟨[(0, agF f), (1, .i m)], [], [], 0⟩
 refine at_B [1, 2] [] [] [(1000000, .any), (1, .i m), (2, .ptr [0] 0)] [([0], .row ((celF f).map .tv) false)] 2 (by kernel_rfl) ?_ ?_
 ·exact trivial
 refine at_B [4] [.std, .std, .ret (.i (cntF f m))] [PureCall Tryd.prog 43 [agF f, .i m] (.i (cntF f m))] [(1000000, .any), (4, .b (decide ((cntF f m) ≤ m)))] [([0], .row ((celF f).map .tv) false)] 8 (by kernel_rfl) ?_ ?_
 ·exact ⟨(c43 f m), trivial⟩
 refine at_ret ?_
 refine fin0 (.inr rfl) (.b (decide ((cntF f m) ≤ m))) [([0], .row ((celF f).map .tv) false)] (.b (decide ((cntF f m) ≤ m))) (H2 := [([0], .row ((celF f).map .tv) false)]) (by kernel_rfl) (by kernel_rfl) ?_
 refine Le.of_eq ?_
 first | rfl | (simp only [*])
end Go.Proofs.YtphmhelkojdlaaaDoor
namespace Go.Proofs.YtphmhelkojdlaaaDoor
open Go.RowKit
set_option linter.unusedSimpArgs false
set_option linter.unusedVariables false
/-- The first place, or -1. -/
def idxF {α : Type} (p : α → Bool) : List α → Nat → Int
 | [], _ => -1
 | x :: r, i => bif p x then (i : Int) else idxF p r (i + 1)
theorem idx_any {α : Type} (p : α → Bool) (l : List α) : ∀ i, decide (0 ≤ idxF p l i) = l.any p := by
 induction l with
 | nil => intro i; rfl
 | cons x r ih =>
  intro i
  by_cases hx : p x = true
  ·simp [idxF, hx]
  ·have hx' : p x = false := by simpa using hx
   have := ih (i + 1)
   rw [List.any_cons, hx', Bool.false_or, ← this, idxF, hx']; rfl
theorem idx_step {α : Type} {p : α → Bool} {l : List α} {i : Nat} (d : α) (h : i < l.length) (hi : idxF p (l.drop i) i = idxF p l 0) (hp : p (l.getD i d) = false) : idxF p (l.drop (i + 1)) (i + 1) = idxF p l 0 := by
 rw [drop_get l i d h, idxF, hp] at hi; exact hi
theorem idx_stop {α : Type} {p : α → Bool} {l : List α} {i : Nat} (d : α) (h : i < l.length) (hi : idxF p (l.drop i) i = idxF p l 0) (hp : p (l.getD i d) = true) : idxF p l 0 = (i : Int) := by
 rw [drop_get l i d h, idxF, hp] at hi; exact hi.symm
theorem idx_end {α : Type} {p : α → Bool} {l : List α} {i : Nat} (h : l.length ≤ i) (hi : idxF p (l.drop i) i = idxF p l 0) : idxF p l 0 = -1 := by
 rw [List.drop_of_length_le h] at hi; exact hi.symm
def eqS (s x : ByteArray) : Bool := decide (s = x)
def eqR (s x : ByteArray) : Bool := decide (x = s)
def fcN (s : ByteArray) (c : Fc) : Bool := decide (c.nm = s)
end Go.Proofs.YtphmhelkojdlaaaDoor
namespace Go.Proofs.YtphmhelkojdlaaaDoor
open Go.RowKit
set_option maxRecDepth 10000
set_option linter.unusedSimpArgs false
set_option linter.unusedVariables false
theorem c72 (l : (List ByteArray)) (s : ByteArray)  : PureCall Tryd.prog 72 [.tv (.sli 1 (l.map encStr)), .tv (.str s)] (.i (idxF (eqS s) l 0)) := by
 refine walk0 (fn := Tryd.f72) [.tmp 4] Tryd.func72 rfl (by kernel_rfl) rfl (by kernel_rfl) (by kernel_rfl) ?_
 change AT _ _ _ ⟨[(0, .tv (.sli 1 (l.map encStr))), (1, .tv (.str s))], [], [], 0⟩
 refine at_len 0 rfl (fun hlen => ?_)
 refine at_B [0, 1] [] [] [(1000000, .any), (0, .tv (.sli 1 (l.map encStr))), (1, .tv (.str s))] [] 1 (by kernel_rfl) ?_ ?_
 ·exact trivial
 refine at_seq ?_
 refine at_B [0, 1, 7, 8] [] [] [(1000000, .any), (0, .tv (.sli 1 (l.map encStr))), (1, .tv (.str s)), (7, .i (((l.map encStr).length : Nat) : Int)), (8, .i 0)] [] 4 (by kernel_rfl) ?_ ?_
 ·exact trivial
 refine at_block ?_
 refine at_loopR (X := Nat) 0 (fun (i : Nat) => [(1000000, .any), (0, .tv (.sli 1 (l.map encStr))), (1, .tv (.str s)), (7, .i (((l.map encStr).length : Nat) : Int)), (8, .i ((i : Nat) : Int))]) (fun (i : Nat) => []) (fun (i : Nat) => i ≤ l.length ∧ idxF (eqS s) (l.drop i) i = idxF (eqS s) l 0) (fun (i : Nat) => l.length - i) 0 ?_ ?_ ?_
 ·exact ⟨Nat.zero_le _, rfl⟩
 ·exact rn_ok [] [] [0, 1, 7, 8] (trivial) (by kernel_rfl)
 ·intro i hinv
  obtain ⟨hx1, hx2⟩ := hinv
  refine at_B [0, 1, 7, 8, 9] [] [] [(1000000, .any), (0, .tv (.sli 1 (l.map encStr))), (1, .tv (.str s)), (7, .i (((l.map encStr).length : Nat) : Int)), (8, .i ((i : Nat) : Int)), (9, .b (decide (((i : Nat) : Int) < (((l.map encStr).length : Nat) : Int))))] [] 1 (by kernel_rfl) ?_ ?_
  ·exact trivial
  refine at_seq ?_
  refine at_cond (b := (decide (((i : Nat) : Int) < (((l.map encStr).length : Nat) : Int)))) rfl rfl (fun hc9 => ?_) (fun hc9 => ?_)
  ·have q9 := hc9
   (try simp only [brs] at q9)
   refine at_skip ?_
   change AT _ _ _ _
   refine at_seq ?_
   refine at_block ?_
   refine at_B [0, 1, 5, 7, 8] [] [] [(1000000, .any), (0, .tv (.sli 1 (l.map encStr))), (1, .tv (.str s)), (5, .i ((i : Nat) : Int)), (7, .i (((l.map encStr).length : Nat) : Int)), (8, .i ((i : Nat) : Int))] [] 3 (by kernel_rfl) ?_ ?_
   ·exact trivial
   refine at_B [0, 1, 5, 7, 8, 16] [.std, .std, .std, .eq (.tv (.ptr [.str (l.getD i ByteArray.empty)]))] [(0 ≤ ((i : Nat) : Int) ∧ ((i : Nat) : Int) < ((((l.map encStr) : List (List TV)).length : Nat) : Int)), (.tv (.ptr (rowAt (l.map encStr) ((i : Nat) : Int))) : AV) = .tv (.ptr [.str (l.getD i ByteArray.empty)])] [(1000000, .any), (0, .tv (.sli 1 (l.map encStr))), (1, .tv (.str s)), (5, .i ((i : Nat) : Int)), (7, .i (((l.map encStr).length : Nat) : Int)), (8, .i ((i : Nat) : Int)), (16, .b (decide (s = (l.getD i ByteArray.empty))))] [] 9 (by kernel_rfl) ?_ ?_
   ·exact ⟨by (try simp only [lns] at *); omega, congrArg (fun c => AV.tv (.ptr c)) (row_enc encStr l ((i : Nat) : Int) ByteArray.empty (by (try simp only [brs, lns] at *); omega)), trivial⟩
   refine at_cond (b := (decide (s = (l.getD i ByteArray.empty)))) rfl rfl (fun hc16 => ?_) (fun hc16 => ?_)
   ·have q16 := hc16
    (try simp only [brs] at q16)
    refine at_B [4] [] [] [(1000000, .any), (4, .i ((i : Nat) : Int))] [] 11 (by kernel_rfl) ?_ ?_
    ·exact trivial
    refine at_ret ?_
    refine fin0 (.inr rfl) (.i ((i : Nat) : Int)) [] (.i ((i : Nat) : Int)) (H2 := []) (by kernel_rfl) (by kernel_rfl) ?_
    refine Le.of_eq ?_
    rw [idx_stop (p := eqS s) (i := i) ByteArray.empty (by omega) hx2 hc16]
   ·have q16 := hc16
    (try simp only [brs] at q16)
    refine at_skip ?_
    change AT _ _ _ _
    refine at_Bl [0, 1, 7, 8] [.eq (.i ((i + 1 : Nat) : Int))] [(.i (wr (((i : Nat) : Int) + 1)) : AV) = .i ((i + 1 : Nat) : Int)] [(1000000, .any), (0, .tv (.sli 1 (l.map encStr))), (1, .tv (.str s)), (7, .i (((l.map encStr).length : Nat) : Int)), (8, .i ((i + 1 : Nat) : Int))] [] 11 (by kernel_rfl) ?_ ?_
    ·exact ⟨succ_av i (by (try simp only [lns] at *); omega), trivial⟩
    refine ⟨rfl, (i + 1), ?_, ?_, ?_⟩
    ·(try dsimp only); omega
    ·exact ⟨by omega, idx_step (p := eqS s) ByteArray.empty (by omega) hx2 hc16⟩
    ·exact rn_ok [] [] [0, 1, 7, 8] (trivial) (by kernel_rfl)
  ·have q9 := hc9
   (try simp only [brs] at q9)
   refine at_exit ?_
   change AT _ _ _ _
   refine at_B [4] [] [] [(1000000, .any), (4, .i (-1))] [] 6 (by kernel_rfl) ?_ ?_
   ·exact trivial
   refine at_ret ?_
   refine fin0 (.inr rfl) (.i (-1)) [] (.i (-1)) (H2 := []) (by kernel_rfl) (by kernel_rfl) ?_
   refine Le.of_eq ?_
   rw [idx_end (p := eqS s) (i := i) (by omega) hx2]
theorem c46 (l : (List ByteArray)) (s : ByteArray)  : PureCall Tryd.prog 46 [.tv (.sli 1 (l.map encStr)), .tv (.str s)] (.b (List.any l (eqS s))) := by
 refine walk0 (fn := Tryd.f46) [.tmp 4] Tryd.func46 rfl (by kernel_rfl) rfl (by kernel_rfl) (by kernel_rfl) ?_
 change AT _ _ _ ⟨[(0, .tv (.sli 1 (l.map encStr))), (1, .tv (.str s))], [], [], 0⟩
 refine at_B [0, 1] [] [] [(1000000, .any), (0, .tv (.sli 1 (l.map encStr))), (1, .tv (.str s))] [] 1 (by kernel_rfl) ?_ ?_
 ·exact trivial
 refine at_B [4] [.std, .std, .ret (.i (idxF (eqS s) l 0))] [PureCall Tryd.prog 72 [.tv (.sli 1 (l.map encStr)), .tv (.str s)] (.i (idxF (eqS s) l 0))] [(1000000, .any), (4, .b (decide ((0 : Int) ≤ (idxF (eqS s) l 0))))] [] 6 (by kernel_rfl) ?_ ?_
 ·exact ⟨(c72 l s), trivial⟩
 refine at_ret ?_
 refine fin0 (.inr rfl) (.b (decide ((0 : Int) ≤ (idxF (eqS s) l 0)))) [] (.b (decide ((0 : Int) ≤ (idxF (eqS s) l 0)))) (H2 := []) (by kernel_rfl) (by kernel_rfl) ?_
 refine Le.of_eq ?_
 rw [← idx_any _ _ 0]
noncomputable abbrev b57_1 (s : ByteArray) (d : Dm) : Hp := [([1], .row [.tv (.str s)] false), ([0], .row ((celD d).map .tv) false)]
noncomputable abbrev b57_2 (d : Dm) (i : Nat) (s : ByteArray) : Hp := [([0, 8, 4, 6], .row ((celC (d.fs.getD i Fc.z)).map .tv) false), ([1], .row [.tv (.str s)] false), ([0], .row ((celD d).map .tv) false)]
theorem c57 (d : Dm) (s : ByteArray)  : PureCall Tryd.prog 57 [agD d, .tv (.str s)] (.i (idxF (fcN s) d.fs 0)) := by
 refine walk0 (fn := Tryd.f57) [.tmp 4] Tryd.func57 rfl (by kernel_rfl) rfl (by kernel_rfl) (by kernel_rfl) ?_
 change AT _ _ _ ⟨[(0, agD d), (1, .tv (.str s))], [], [], 0⟩
 refine at_B [2, 3] [] [] [(1000000, .any), (2, .ptr [0] 0), (3, .ptr [1] 0)] (b57_1 s d) 3 (by kernel_rfl) ?_ ?_
 ·exact trivial
 refine at_B [4] [.std, .std, .std, .retH (.i (idxF (fcN s) d.fs 0)) (b57_1 s d)] [CallOK Tryd.prog 78 [.tv (.sli 4 (d.fs.map celC)), .fn (.func 79) [.ptr [1] 0]] (b57_1 s d) [6] (fun v1 H1 => v1 = (.i (idxF (fcN s) d.fs 0)) ∧ H1 = (b57_1 s d))] [(1000000, .any), (4, .i (idxF (fcN s) d.fs 0))] (b57_1 s d) 8 (by kernel_rfl) ?_ ?_
 ·refine ⟨?_, trivial⟩
  ·refine call_in (fn := Tryd.f78) [.tmp 4] Tryd.func78 rfl (by kernel_rfl) rfl ?_
   change AT _ _ _ ⟨[(0, .tv (.sli 4 (d.fs.map celC))), (1, .fn (.func 79) [.ptr [1] 0])], (b57_1 s d), [6], 0⟩
   refine at_B [0, 1] [] [] [(1000000, .any), (0, .tv (.sli 4 (d.fs.map celC))), (1, .fn (.func 79) [.ptr [1] 0])] (b57_1 s d) 1 (by kernel_rfl) ?_ ?_
   ·exact trivial
   refine at_seq ?_
   refine at_B [0, 1, 7, 8] [] [] [(1000000, .any), (0, .tv (.sli 4 (d.fs.map celC))), (1, .fn (.func 79) [.ptr [1] 0]), (7, .i (((d.fs.map celC).length : Nat) : Int)), (8, .i 0)] (b57_1 s d) 4 (by kernel_rfl) ?_ ?_
   ·exact trivial
   refine at_block ?_
   refine at_len 0 rfl (fun hlen => ?_)
   refine at_loopR (X := Nat) 0 (fun (i : Nat) => [(1000000, .any), (0, .tv (.sli 4 (d.fs.map celC))), (1, .fn (.func 79) [.ptr [1] 0]), (7, .i (((d.fs.map celC).length : Nat) : Int)), (8, .i ((i : Nat) : Int))]) (fun (i : Nat) => (b57_1 s d)) (fun (i : Nat) => i ≤ d.fs.length ∧ idxF (fcN s) (d.fs.drop i) i = idxF (fcN s) d.fs 0) (fun (i : Nat) => d.fs.length - i) 0 ?_ ?_ ?_
   ·exact ⟨Nat.zero_le _, rfl⟩
   ·exact rn_ok [([1], [1]), ([0], [0])] [] [0, 1, 7, 8] (trivial) (by kernel_rfl)
   ·intro i hinv
    obtain ⟨hx1, hx2⟩ := hinv
    refine at_B [0, 1, 7, 8, 9] [] [] [(1000000, .any), (0, .tv (.sli 4 (d.fs.map celC))), (1, .fn (.func 79) [.ptr [1] 0]), (7, .i (((d.fs.map celC).length : Nat) : Int)), (8, .i ((i : Nat) : Int)), (9, .b (decide (((i : Nat) : Int) < (((d.fs.map celC).length : Nat) : Int))))] (b57_1 s d) 1 (by kernel_rfl) ?_ ?_
    ·exact trivial
    refine at_seq ?_
    refine at_cond (b := (decide (((i : Nat) : Int) < (((d.fs.map celC).length : Nat) : Int)))) rfl rfl (fun hc9_1 => ?_) (fun hc9_1 => ?_)
    ·have q9_1 := hc9_1
     (try simp only [brs] at q9_1)
     refine at_skip ?_
     change AT _ _ _ _
     refine at_seq ?_
     refine at_block ?_
     refine at_B [0, 1, 5, 7, 8] [] [] [(1000000, .any), (0, .tv (.sli 4 (d.fs.map celC))), (1, .fn (.func 79) [.ptr [1] 0]), (5, .i ((i : Nat) : Int)), (7, .i (((d.fs.map celC).length : Nat) : Int)), (8, .i ((i : Nat) : Int))] (b57_1 s d) 3 (by kernel_rfl) ?_ ?_
     ·exact trivial
     refine at_B [0, 1, 5, 7, 8, 16] [.std, .std, .std, .eq (.tv (.ptr (celC (d.fs.getD i Fc.z)))), .std, .retH (.b (decide ((d.fs.getD i Fc.z).nm = s))) (b57_1 s d)] [(0 ≤ ((i : Nat) : Int) ∧ ((i : Nat) : Int) < ((((d.fs.map celC) : List (List TV)).length : Nat) : Int)), (.tv (.ptr (rowAt (d.fs.map celC) ((i : Nat) : Int))) : AV) = .tv (.ptr (celC (d.fs.getD i Fc.z))), CallOK Tryd.prog 79 [agC (d.fs.getD i Fc.z), .ptr [1] 0] (b57_1 s d) [8, 4, 6] (fun v1 H1 => v1 = (.b (decide ((d.fs.getD i Fc.z).nm = s))) ∧ H1 = (b57_1 s d))] [(1000000, .any), (0, .tv (.sli 4 (d.fs.map celC))), (1, .fn (.func 79) [.ptr [1] 0]), (5, .i ((i : Nat) : Int)), (7, .i (((d.fs.map celC).length : Nat) : Int)), (8, .i ((i : Nat) : Int)), (16, .b (decide ((d.fs.getD i Fc.z).nm = s)))] (b57_1 s d) 9 (by kernel_rfl) ?_ ?_
     ·refine ⟨by (try simp only [lns] at *); omega, congrArg (fun c => AV.tv (.ptr c)) (row_C d.fs ((i : Nat) : Int) (by (try simp only [brs, lns] at *); omega)), ?_, trivial⟩
      ·refine call_in (fn := Tryd.f79) [.tmp 3] Tryd.func79 rfl (by kernel_rfl) rfl ?_
       change AT _ _ _ ⟨[(0, agC (d.fs.getD i Fc.z)), (1, .ptr [1] 0)], (b57_1 s d), [8, 4, 6], 0⟩
       refine at_B [1, 2] [] [] [(1000000, .any), (1, .ptr [1] 0), (2, .ptr [0, 8, 4, 6] 0)] (b57_2 d i s) 2 (by kernel_rfl) ?_ ?_
       ·exact trivial
       refine at_B [3] [] [] [(1000000, .any), (3, .b (decide ((d.fs.getD i Fc.z).nm = s)))] (b57_2 d i s) 7 (by kernel_rfl) ?_ ?_
       ·exact trivial
       refine at_ret ?_
       exact fin_in (.inr rfl) [[1], [0]] (.b (decide ((d.fs.getD i Fc.z).nm = s))) (b57_2 d i s) (by kernel_rfl) rfl (by kernel_rfl)
     refine at_cond (b := (decide ((d.fs.getD i Fc.z).nm = s))) rfl rfl (fun hc16_1 => ?_) (fun hc16_1 => ?_)
     ·have q16_1 := hc16_1
      (try simp only [brs] at q16_1)
      refine at_B [4] [] [] [(1000000, .any), (4, .i ((i : Nat) : Int))] (b57_1 s d) 11 (by kernel_rfl) ?_ ?_
      ·exact trivial
      refine at_ret ?_
      exact fin_in (.inr rfl) [[1], [0]] (.i ((i : Nat) : Int)) (b57_1 s d) (by kernel_rfl) (by rw [idx_stop (p := fcN s) (i := i) Fc.z (by omega) hx2 hc16_1]) (by kernel_rfl)
     ·have q16_1 := hc16_1
      (try simp only [brs] at q16_1)
      refine at_skip ?_
      change AT _ _ _ _
      refine at_Bl [0, 1, 7, 8] [.eq (.i ((i + 1 : Nat) : Int))] [(.i (wr (((i : Nat) : Int) + 1)) : AV) = .i ((i + 1 : Nat) : Int)] [(1000000, .any), (0, .tv (.sli 4 (d.fs.map celC))), (1, .fn (.func 79) [.ptr [1] 0]), (7, .i (((d.fs.map celC).length : Nat) : Int)), (8, .i ((i + 1 : Nat) : Int))] (b57_1 s d) 11 (by kernel_rfl) ?_ ?_
      ·exact ⟨succ_av i (by (try simp only [lns] at *); omega), trivial⟩
      refine ⟨rfl, (i + 1), ?_, ?_, ?_⟩
      ·(try dsimp only); omega
      ·exact ⟨by omega, idx_step (p := fcN s) Fc.z (by omega) hx2 hc16_1⟩
      ·exact rn_ok [([1], [1]), ([0], [0])] [] [0, 1, 7, 8] (trivial) (by kernel_rfl)
    ·have q9_1 := hc9_1
     (try simp only [brs] at q9_1)
     refine at_exit ?_
     change AT _ _ _ _
     refine at_B [4] [] [] [(1000000, .any), (4, .i (-1))] (b57_1 s d) 6 (by kernel_rfl) ?_ ?_
     ·exact trivial
     refine at_ret ?_
     exact fin_in (.inr rfl) [[1], [0]] (.i (-1)) (b57_1 s d) (by kernel_rfl) (by rw [idx_end (p := fcN s) (i := i) (by omega) hx2]) (by kernel_rfl)
 refine at_ret ?_
 refine fin0 (.inr rfl) (.i (idxF (fcN s) d.fs 0)) (b57_1 s d) (.i (idxF (fcN s) d.fs 0)) (H2 := (b57_1 s d)) (by kernel_rfl) (by kernel_rfl) ?_
 refine Le.of_eq ?_
 rfl
end Go.Proofs.YtphmhelkojdlaaaDoor
namespace Go.Proofs.YtphmhelkojdlaaaDoor
open Go.RowKit
set_option linter.unusedSimpArgs false
set_option linter.unusedVariables false
theorem rall_no {n i : Nat} {p : Nat → Bool} (h : i < n) (hb : p i = true) : ((List.range n).all fun i => !p i) = false := by
 rw [List.all_eq_false]
 exact ⟨i, List.mem_range.2 h, by simp [hb]⟩
theorem rall_yes {n m : Nat} {p : Nat → Bool} (hn : n ≤ m) (h : ∀ j, j < m → p j = false) : ((List.range n).all fun i => !p i) = true := by
 rw [List.all_eq_true]
 intro x hx
 rw [h x (by have := List.mem_range.1 hx; omega)]; rfl
def badN (s : ByteArray) (i : Nat) : Bool := (!letterC (sbyte s i)) && (decide ((i : Int) = 0) || ((!decide (sbyte s i = 95)) && (decide (sbyte s i < 48) || decide (57 < sbyte s i))))
def nameP (s : ByteArray) : Bool := ((List.range s.size).all fun i => !badN s i) && (decide (0 < (s.size : Int)) && decide ((s.size : Int) ≤ 24))
def badI (s : ByteArray) (i : Nat) : Bool := (!letterC (sbyte s i)) && (decide ((i : Int) = 0) || !((decide (48 ≤ sbyte s i) && decide (sbyte s i ≤ 57)) || decide (sbyte s i = 95)))
def nameI (s : ByteArray) : Bool := ((List.range s.size).all fun i => !badI s i) && ((!decide (s = ⟨#[]⟩)) && decide ((s.size : Int) ≤ 24))
abbrev Mb := List (ByteArray × Bool)
def flagC (c : Fc) : Bool := (decide (c.kd = 1) && decide (c.lo = 0)) && decide (c.hi = 1)
def othC (c : Fc) : Bool := (((decide (c.kd = 2) || decide (c.kd = 3)) && decide (0 ≤ c.lo)) && decide (c.lo ≤ c.hi)) && decide (c.hi ≤ 1000000)
def badFc (m : Mb) (c : Fc) : Bool := (((!flagC c) && (!othC c)) || (!nameI c.nm)) || mgetB m c.nm
def validG (m : Mb) : List Fc → Bool
 | [] => true
 | c :: r => bif badFc m c then false else validG (mputB m c.nm true) r
def validD (d : Dm) : Bool := validG [] d.fs && decide ((d.fs.length : Int) ≤ 60)
theorem valid_step {m : Mb} {l : List Fc} {i : Nat} {b : Bool} (h : i < l.length) (hi : validG m (l.drop i) = b) (hb : badFc m (l.getD i Fc.z) = false) : validG (mputB m (l.getD i Fc.z).nm true) (l.drop (i + 1)) = b := by
 rw [drop_get l i Fc.z h, validG, hb] at hi; exact hi
theorem valid_stop {m : Mb} {l : List Fc} {i : Nat} {b : Bool} (h : i < l.length) (hi : validG m (l.drop i) = b) (hb : badFc m (l.getD i Fc.z) = true) : b = false := by
 rw [drop_get l i Fc.z h, validG, hb] at hi; exact hi.symm
theorem valid_end {m : Mb} {l : List Fc} {i : Nat} {b : Bool} (h : l.length ≤ i) (hi : validG m (l.drop i) = b) : b = true := by
 rw [List.drop_of_length_le h] at hi; exact hi.symm
def outC (c : List Int) (l : List Fc) (i : Nat) : Bool := decide (c.getD i 0 < (l.getD i Fc.z).lo) || decide ((l.getD i Fc.z).hi < c.getD i 0)
def fitsD (d : Dm) (c : List Int) : Bool := bif (!validD d) || (!decide ((c.length : Int) = (d.fs.length : Int))) then false else (List.range d.fs.length).all fun i => !outC c d.fs i
end Go.Proofs.YtphmhelkojdlaaaDoor
namespace Go.Proofs.YtphmhelkojdlaaaDoor
open Go.RowKit
set_option maxRecDepth 10000
set_option linter.unusedSimpArgs false
set_option linter.unusedVariables false
theorem c53 (s : ByteArray)  : PureCall Tryd.prog 53 [.tv (.str s)] (.b (nameI s)) := by
 refine walk0 (fn := Tryd.f53) [.tmp 2] Tryd.func53 rfl (by kernel_rfl) rfl (by kernel_rfl) (by kernel_rfl) ?_
 change AT _ _ _ ⟨[(0, .tv (.str s))], [], [], 0⟩
 refine at_strlen 0 rfl (fun hs => ?_)
 refine at_B [0] [] [] [(1000000, .any), (0, .tv (.str s))] [] 1 (by kernel_rfl) ?_ ?_
 ·exact trivial
 refine at_seq ?_
 refine at_B [0, 8, 9] [] [] [(1000000, .any), (0, .tv (.str s)), (8, .i ((s.size : Nat) : Int)), (9, .i 0)] [] 4 (by kernel_rfl) ?_ ?_
 ·exact trivial
 refine at_block ?_
 refine at_loopR (X := Nat) 0 (fun (i : Nat) => [(1000000, .any), (0, .tv (.str s)), (8, .i ((s.size : Nat) : Int)), (9, .i ((i : Nat) : Int))]) (fun (i : Nat) => []) (fun (i : Nat) => i ≤ s.size ∧ ∀ j, j < i → badI s j = false) (fun (i : Nat) => s.size - i) 0 ?_ ?_ ?_
 ·exact ⟨Nat.zero_le _, fun j hj => absurd hj (Nat.not_lt_zero j)⟩
 ·exact rn_ok [] [] [0, 8, 9] (trivial) (by kernel_rfl)
 ·intro i hinv
  obtain ⟨hx1, hx2⟩ := hinv
  refine at_B [0, 8, 9, 10] [] [] [(1000000, .any), (0, .tv (.str s)), (8, .i ((s.size : Nat) : Int)), (9, .i ((i : Nat) : Int)), (10, .b (decide (((i : Nat) : Int) < ((s.size : Nat) : Int))))] [] 1 (by kernel_rfl) ?_ ?_
  ·exact trivial
  refine at_seq ?_
  refine at_cond (b := (decide (((i : Nat) : Int) < ((s.size : Nat) : Int)))) rfl rfl (fun hc10 => ?_) (fun hc10 => ?_)
  ·have q10 := hc10
   (try simp only [brs] at q10)
   refine at_skip ?_
   change AT _ _ _ _
   refine at_seq ?_
   refine at_block ?_
   refine at_B [0, 3, 8, 9] [] [] [(1000000, .any), (0, .tv (.str s)), (3, .i ((i : Nat) : Int)), (8, .i ((s.size : Nat) : Int)), (9, .i ((i : Nat) : Int))] [] 3 (by kernel_rfl) ?_ ?_
   ·exact trivial
   refine at_B [0, 3, 4, 8, 9] [] [(0 ≤ ((i : Nat) : Int) ∧ ((i : Nat) : Int) < ((s.size : Nat) : Int))] [(1000000, .any), (0, .tv (.str s)), (3, .i ((i : Nat) : Int)), (4, .tv (.int .u8 (sbyte s ((i : Nat) : Int)))), (8, .i ((s.size : Nat) : Int)), (9, .i ((i : Nat) : Int))] [] 7 (by kernel_rfl) ?_ ?_
   ·exact ⟨by (try simp only [lns] at *); omega, trivial⟩
   refine at_B [0, 3, 5, 6, 8, 9] [] [] [(1000000, .any), (0, .tv (.str s)), (3, .i ((i : Nat) : Int)), (5, .b (((decide ((97 : Int) ≤ sbyte s ((i : Nat) : Int))) && (decide (sbyte s ((i : Nat) : Int) ≤ (122 : Int)))) || ((decide ((65 : Int) ≤ sbyte s ((i : Nat) : Int))) && (decide (sbyte s ((i : Nat) : Int) ≤ (90 : Int)))))), (6, .b (((decide ((48 : Int) ≤ sbyte s ((i : Nat) : Int))) && (decide (sbyte s ((i : Nat) : Int) ≤ (57 : Int)))) || (decide (sbyte s ((i : Nat) : Int) = (95 : Int))))), (8, .i ((s.size : Nat) : Int)), (9, .i ((i : Nat) : Int))] [] 33 (by kernel_rfl) ?_ ?_
   ·exact trivial
   refine at_B [0, 8, 9, 48] [] [] [(1000000, .any), (0, .tv (.str s)), (8, .i ((s.size : Nat) : Int)), (9, .i ((i : Nat) : Int)), (48, .b ((!(((decide ((97 : Int) ≤ sbyte s ((i : Nat) : Int))) && (decide (sbyte s ((i : Nat) : Int) ≤ (122 : Int)))) || ((decide ((65 : Int) ≤ sbyte s ((i : Nat) : Int))) && (decide (sbyte s ((i : Nat) : Int) ≤ (90 : Int)))))) && ((decide (((i : Nat) : Int) = (0 : Int))) || (!(((decide ((48 : Int) ≤ sbyte s ((i : Nat) : Int))) && (decide (sbyte s ((i : Nat) : Int) ≤ (57 : Int)))) || (decide (sbyte s ((i : Nat) : Int) = (95 : Int))))))))] [] 43 (by kernel_rfl) ?_ ?_
   ·exact trivial
   refine at_cond (b := ((!(((decide ((97 : Int) ≤ sbyte s ((i : Nat) : Int))) && (decide (sbyte s ((i : Nat) : Int) ≤ (122 : Int)))) || ((decide ((65 : Int) ≤ sbyte s ((i : Nat) : Int))) && (decide (sbyte s ((i : Nat) : Int) ≤ (90 : Int)))))) && ((decide (((i : Nat) : Int) = (0 : Int))) || (!(((decide ((48 : Int) ≤ sbyte s ((i : Nat) : Int))) && (decide (sbyte s ((i : Nat) : Int) ≤ (57 : Int)))) || (decide (sbyte s ((i : Nat) : Int) = (95 : Int)))))))) rfl rfl (fun hc48 => ?_) (fun hc48 => ?_)
   ·have q48 := hc48
    (try simp only [brs] at q48)
    refine at_B [2] [] [] [(1000000, .any), (2, .b false)] [] 44 (by kernel_rfl) ?_ ?_
    ·exact trivial
    refine at_ret ?_
    refine fin0 (.inr rfl) (.b false) [] (.b false) (H2 := []) (by kernel_rfl) (by kernel_rfl) ?_
    refine Le.of_eq ?_
    rw [nameI, rall_no (p := badI s) (by omega) hc48]; rfl
   ·have q48 := hc48
    (try simp only [brs] at q48)
    refine at_skip ?_
    change AT _ _ _ _
    refine at_Bl [0, 8, 9] [.eq (.i ((i + 1 : Nat) : Int))] [(.i (wr (((i : Nat) : Int) + 1)) : AV) = .i ((i + 1 : Nat) : Int)] [(1000000, .any), (0, .tv (.str s)), (8, .i ((s.size : Nat) : Int)), (9, .i ((i + 1 : Nat) : Int))] [] 45 (by kernel_rfl) ?_ ?_
    ·exact ⟨succ_av i (by (try simp only [lns] at *); omega), trivial⟩
    refine ⟨rfl, (i + 1), ?_, ?_, ?_⟩
    ·(try dsimp only); omega
    ·exact ⟨by omega, fun j hj => (if e : j = i then e ▸ hc48 else hx2 j (by omega))⟩
    ·exact rn_ok [] [] [0, 8, 9] (trivial) (by kernel_rfl)
  ·have q10 := hc10
   (try simp only [brs] at q10)
   refine at_exit ?_
   change AT _ _ _ _
   refine at_B [2] [] [] [(1000000, .any), (2, .b ((!decide (s = ⟨#[]⟩)) && (decide (((s.size : Nat) : Int) ≤ (24 : Int)))))] [] 13 (by kernel_rfl) ?_ ?_
   ·exact trivial
   refine at_ret ?_
   refine fin0 (.inr rfl) (.b ((!decide (s = ⟨#[]⟩)) && (decide (((s.size : Nat) : Int) ≤ (24 : Int))))) [] (.b ((!decide (s = ⟨#[]⟩)) && (decide (((s.size : Nat) : Int) ≤ (24 : Int))))) (H2 := []) (by kernel_rfl) (by kernel_rfl) ?_
   refine Le.of_eq ?_
   rw [nameI, rall_yes (p := badI s) (m := i) (by omega) hx2]; rfl
noncomputable abbrev b25_1 (d : Dm) (i : Nat) : Id × AO := ([3, 8], .row ((celC (d.fs.getD i Fc.z)).map .tv) false)
noncomputable abbrev b25_2 (d : Dm) (i : Nat) (m : Mb) : Hp := [(b25_1 d i), ([2], .smap (mB m)), ([0], .row ((celD d).map .tv) false)]
noncomputable abbrev b25_3 (m : Mb) (d : Dm) : Hp := [([2], .smap (mB m)), ([0], .row ((celD d).map .tv) false)]
theorem c25 (d : Dm)  : PureCall Tryd.prog 25 [agD d] (.b (validD d)) := by
 refine walk0 (fn := Tryd.f25) [.tmp 2] Tryd.func25 rfl (by kernel_rfl) rfl (by kernel_rfl) (by kernel_rfl) ?_
 change AT _ _ _ ⟨[(0, agD d)], [], [], 0⟩
 refine at_agD 0 rfl (fun hlen => ?_)
 refine at_B [1] [] [] [(1000000, .any), (1, .ptr [0] 0)] [([0], .row ((celD d).map .tv) false)] 2 (by kernel_rfl) ?_ ?_
 ·exact trivial
 refine at_B [1, 3] [] [] [(1000000, .any), (1, .ptr [0] 0), (3, .map [2])] [([2], .smap []), ([0], .row ((celD d).map .tv) false)] 4 (by kernel_rfl) ?_ ?_
 ·exact trivial
 refine at_seq ?_
 refine at_B [1, 3, 10, 11, 12] [] [] [(1000000, .any), (1, .ptr [0] 0), (3, .map [2]), (10, .tv (.sli 4 (d.fs.map celC))), (11, .i (((d.fs.map celC).length : Nat) : Int)), (12, .i 0)] [([2], .smap []), ([0], .row ((celD d).map .tv) false)] 8 (by kernel_rfl) ?_ ?_
 ·exact trivial
 refine at_block ?_
 refine at_loopR (X := Nat × Mb) 0 (fun ((i, m) : Nat × Mb) => [(1000000, .any), (1, .ptr [0] 0), (3, .map [2]), (10, .tv (.sli 4 (d.fs.map celC))), (11, .i (((d.fs.map celC).length : Nat) : Int)), (12, .i ((i : Nat) : Int))]) (fun ((i, m) : Nat × Mb) => (b25_3 m d)) (fun ((i, m) : Nat × Mb) => i ≤ d.fs.length ∧ validG m (d.fs.drop i) = validG [] d.fs) (fun ((i, m) : Nat × Mb) => d.fs.length - i) (0, []) ?_ ?_ ?_
 ·exact ⟨Nat.zero_le _, rfl⟩
 ·exact rn_ok [([2], [2]), ([0], [0])] [] [1, 3, 10, 11, 12] (trivial) (by kernel_rfl)
 ·rintro ⟨i, m⟩ hinv
  dsimp only at hinv ⊢
  obtain ⟨hx1, hx2⟩ := hinv
  refine at_B [1, 3, 10, 11, 12, 13] [] [] [(1000000, .any), (1, .ptr [0] 0), (3, .map [2]), (10, .tv (.sli 4 (d.fs.map celC))), (11, .i (((d.fs.map celC).length : Nat) : Int)), (12, .i ((i : Nat) : Int)), (13, .b (decide (((i : Nat) : Int) < (((d.fs.map celC).length : Nat) : Int))))] (b25_3 m d) 1 (by kernel_rfl) ?_ ?_
  ·exact trivial
  refine at_seq ?_
  refine at_cond (b := (decide (((i : Nat) : Int) < (((d.fs.map celC).length : Nat) : Int)))) rfl rfl (fun hc13 => ?_) (fun hc13 => ?_)
  ·have q13 := hc13
   (try simp only [brs] at q13)
   refine at_skip ?_
   change AT _ _ _ _
   refine at_seq ?_
   refine at_block ?_
   refine at_B [1, 3, 5, 10, 11, 12] [.eq (.tv (.ptr (celC (d.fs.getD i Fc.z))))] [(0 ≤ ((i : Nat) : Int) ∧ ((i : Nat) : Int) < ((((d.fs.map celC) : List (List TV)).length : Nat) : Int)), (.tv (.ptr (rowAt (d.fs.map celC) ((i : Nat) : Int))) : AV) = .tv (.ptr (celC (d.fs.getD i Fc.z)))] [(1000000, .any), (1, .ptr [0] 0), (3, .map [2]), (5, .ptr [3, 8] 0), (10, .tv (.sli 4 (d.fs.map celC))), (11, .i (((d.fs.map celC).length : Nat) : Int)), (12, .i ((i : Nat) : Int))] (b25_2 d i m) 5 (by kernel_rfl) ?_ ?_
   ·exact ⟨by (try simp only [lns] at *); omega, congrArg (fun c => AV.tv (.ptr c)) (row_C d.fs ((i : Nat) : Int) (by (try simp only [brs, lns] at *); omega)), trivial⟩
   refine at_B [1, 3, 5, 6, 10, 11, 12] [] [] [(1000000, .any), (1, .ptr [0] 0), (3, .map [2]), (5, .ptr [3, 8] 0), (6, .b (((decide ((d.fs.getD i Fc.z).kd = (1 : Int))) && (decide ((d.fs.getD i Fc.z).lo = (0 : Int)))) && (decide ((d.fs.getD i Fc.z).hi = (1 : Int))))), (10, .tv (.sli 4 (d.fs.map celC))), (11, .i (((d.fs.map celC).length : Nat) : Int)), (12, .i ((i : Nat) : Int))] (b25_2 d i m) 19 (by kernel_rfl) ?_ ?_
   ·exact trivial
   refine at_B [1, 3, 5, 6, 7, 10, 11, 12] [] [] [(1000000, .any), (1, .ptr [0] 0), (3, .map [2]), (5, .ptr [3, 8] 0), (6, .b (((decide ((d.fs.getD i Fc.z).kd = (1 : Int))) && (decide ((d.fs.getD i Fc.z).lo = (0 : Int)))) && (decide ((d.fs.getD i Fc.z).hi = (1 : Int))))), (7, .b (((((decide ((d.fs.getD i Fc.z).kd = (2 : Int))) || (decide ((d.fs.getD i Fc.z).kd = (3 : Int)))) && (decide ((0 : Int) ≤ (d.fs.getD i Fc.z).lo))) && (decide ((d.fs.getD i Fc.z).lo ≤ (d.fs.getD i Fc.z).hi))) && (decide ((d.fs.getD i Fc.z).hi ≤ (1000000 : Int))))), (10, .tv (.sli 4 (d.fs.map celC))), (11, .i (((d.fs.map celC).length : Nat) : Int)), (12, .i ((i : Nat) : Int))] (b25_2 d i m) 45 (by kernel_rfl) ?_ ?_
   ·exact trivial
   refine at_seq ?_
   refine at_B [1, 3, 5, 10, 11, 12, 71] [.std, .std, .std, .std, .std, .std, .std, .std, .std, .ret (.b (nameI (d.fs.getD i Fc.z).nm)), .std, .std, .std, .std, .std, .std, .eq (.b (mgetB m (d.fs.getD i Fc.z).nm))] [(((!(((decide ((d.fs.getD i Fc.z).kd = (1 : Int))) && (decide ((d.fs.getD i Fc.z).lo = (0 : Int)))) && (decide ((d.fs.getD i Fc.z).hi = (1 : Int))))) && (!(((((decide ((d.fs.getD i Fc.z).kd = (2 : Int))) || (decide ((d.fs.getD i Fc.z).kd = (3 : Int)))) && (decide ((0 : Int) ≤ (d.fs.getD i Fc.z).lo))) && (decide ((d.fs.getD i Fc.z).lo ≤ (d.fs.getD i Fc.z).hi))) && (decide ((d.fs.getD i Fc.z).hi ≤ (1000000 : Int)))))) = false) → PureCall Tryd.prog 53 [.tv (.str (d.fs.getD i Fc.z).nm)] (.b (nameI (d.fs.getD i Fc.z).nm)), ((((!(((decide ((d.fs.getD i Fc.z).kd = (1 : Int))) && (decide ((d.fs.getD i Fc.z).lo = (0 : Int)))) && (decide ((d.fs.getD i Fc.z).hi = (1 : Int))))) && (!(((((decide ((d.fs.getD i Fc.z).kd = (2 : Int))) || (decide ((d.fs.getD i Fc.z).kd = (3 : Int)))) && (decide ((0 : Int) ≤ (d.fs.getD i Fc.z).lo))) && (decide ((d.fs.getD i Fc.z).lo ≤ (d.fs.getD i Fc.z).hi))) && (decide ((d.fs.getD i Fc.z).hi ≤ (1000000 : Int)))))) || (!(nameI (d.fs.getD i Fc.z).nm))) = false) → ((sget (mB m) (d.fs.getD i Fc.z).nm).getD (.b false) : AV) = .b (mgetB m (d.fs.getD i Fc.z).nm)] [(1000000, .any), (1, .ptr [0] 0), (3, .map [2]), (5, .ptr [3, 8] 0), (10, .tv (.sli 4 (d.fs.map celC))), (11, .i (((d.fs.map celC).length : Nat) : Int)), (12, .i ((i : Nat) : Int)), (71, .b ((((!(((decide ((d.fs.getD i Fc.z).kd = (1 : Int))) && (decide ((d.fs.getD i Fc.z).lo = (0 : Int)))) && (decide ((d.fs.getD i Fc.z).hi = (1 : Int))))) && (!(((((decide ((d.fs.getD i Fc.z).kd = (2 : Int))) || (decide ((d.fs.getD i Fc.z).kd = (3 : Int)))) && (decide ((0 : Int) ≤ (d.fs.getD i Fc.z).lo))) && (decide ((d.fs.getD i Fc.z).lo ≤ (d.fs.getD i Fc.z).hi))) && (decide ((d.fs.getD i Fc.z).hi ≤ (1000000 : Int)))))) || (!(nameI (d.fs.getD i Fc.z).nm))) || (mgetB m (d.fs.getD i Fc.z).nm)))] (b25_2 d i m) 63 (by kernel_rfl) ?_ ?_
   ·exact ⟨fun hg0 => (c53 (d.fs.getD i Fc.z).nm), fun hg0 => mB_get m (d.fs.getD i Fc.z).nm, trivial⟩
   refine at_cond (b := ((((!(((decide ((d.fs.getD i Fc.z).kd = (1 : Int))) && (decide ((d.fs.getD i Fc.z).lo = (0 : Int)))) && (decide ((d.fs.getD i Fc.z).hi = (1 : Int))))) && (!(((((decide ((d.fs.getD i Fc.z).kd = (2 : Int))) || (decide ((d.fs.getD i Fc.z).kd = (3 : Int)))) && (decide ((0 : Int) ≤ (d.fs.getD i Fc.z).lo))) && (decide ((d.fs.getD i Fc.z).lo ≤ (d.fs.getD i Fc.z).hi))) && (decide ((d.fs.getD i Fc.z).hi ≤ (1000000 : Int)))))) || (!(nameI (d.fs.getD i Fc.z).nm))) || (mgetB m (d.fs.getD i Fc.z).nm))) rfl rfl (fun hc71 => ?_) (fun hc71 => ?_)
   ·have q71 := hc71
    (try simp only [brs] at q71)
    refine at_B [2] [] [] [(1000000, .any), (2, .b false)] (b25_2 d i m) 64 (by kernel_rfl) ?_ ?_
    ·exact trivial
    refine at_ret ?_
    refine fin0 (.inr rfl) (.b false) (b25_2 d i m) (.b false) (H2 := (b25_2 d i m)) (by kernel_rfl) (by kernel_rfl) ?_
    refine Le.of_eq ?_
    rw [validD, valid_stop (i := i) (by omega) hx2 hc71]; rfl
   ·have q71 := hc71
    (try simp only [brs] at q71)
    refine at_skip ?_
    change AT _ _ _ _
    refine at_Bl [1, 3, 10, 11, 12] [.std, .std, .std, .eff (.tup []) (.smap (mB (mputB m (d.fs.getD i Fc.z).nm true)))] [(.tup [] : AV) = .tup [], (.smap (sput (mB m) (d.fs.getD i Fc.z).nm (.b true)) : AO) = .smap (mB (mputB m (d.fs.getD i Fc.z).nm true))] [(1000000, .any), (1, .ptr [0] 0), (3, .map [2]), (10, .tv (.sli 4 (d.fs.map celC))), (11, .i (((d.fs.map celC).length : Nat) : Int)), (12, .i ((i : Nat) : Int))] [(b25_1 d i), ([2], .smap (mB (mputB m (d.fs.getD i Fc.z).nm true))), ([0], .row ((celD d).map .tv) false)] 67 (by kernel_rfl) ?_ ?_
    ·exact ⟨rfl, congrArg AO.smap (mB_put _ _ _), trivial⟩
    change AT _ _ _ _
    refine at_Bl [1, 3, 10, 11, 12] [.eq (.i ((i + 1 : Nat) : Int))] [(.i (wr (((i : Nat) : Int) + 1)) : AV) = .i ((i + 1 : Nat) : Int)] [(1000000, .any), (1, .ptr [0] 0), (3, .map [2]), (10, .tv (.sli 4 (d.fs.map celC))), (11, .i (((d.fs.map celC).length : Nat) : Int)), (12, .i ((i + 1 : Nat) : Int))] [(b25_1 d i), ([2], .smap (mB (mputB m (d.fs.getD i Fc.z).nm true))), ([0], .row ((celD d).map .tv) false)] 69 (by kernel_rfl) ?_ ?_
    ·exact ⟨succ_av i (by (try simp only [lns] at *); omega), trivial⟩
    refine ⟨rfl, (i + 1, (mputB m (d.fs.getD i Fc.z).nm true)), ?_, ?_, ?_⟩
    ·(try dsimp only); omega
    ·(try dsimp only); exact ⟨by omega, valid_step (by omega) hx2 hc71⟩
    ·exact rn_ok [([2], [2]), ([0], [0])] [[2]] [1, 3, 10, 11, 12] (⟨clO_mB _, trivial⟩) (by kernel_rfl)
  ·have q13 := hc13
   (try simp only [brs] at q13)
   refine at_exit ?_
   change AT _ _ _ _
   refine at_B [2] [] [] [(1000000, .any), (2, .b (decide ((((d.fs.map celC).length : Nat) : Int) ≤ (60 : Int))))] (b25_3 m d) 14 (by kernel_rfl) ?_ ?_
   ·exact trivial
   refine at_ret ?_
   refine fin0 (.inr rfl) (.b (decide ((((d.fs.map celC).length : Nat) : Int) ≤ (60 : Int)))) (b25_3 m d) (.b (decide ((((d.fs.map celC).length : Nat) : Int) ≤ (60 : Int)))) (H2 := (b25_3 m d)) (by kernel_rfl) (by kernel_rfl) ?_
   refine Le.of_eq ?_
   rw [validD, valid_end (i := i) (by omega) hx2, List.length_map]; rfl
noncomputable abbrev b30_1 (d : Dm) (i : Nat) : Id × AO := ([4, 17], .row ((celC (d.fs.getD i Fc.z)).map .tv) false)
noncomputable abbrev b30_2 (d : Dm) (i : Nat) : Hp := [(b30_1 d i), ([0], .row ((celD d).map .tv) false)]
theorem c30 (d : Dm) (c : (List Int))  : PureCall Tryd.prog 30 [agD d, .tv (.sli 1 (c.map encI))] (.b (fitsD d c)) := by
 refine walk0 (fn := Tryd.f30) [.tmp 4] Tryd.func30 rfl (by kernel_rfl) rfl (by kernel_rfl) (by kernel_rfl) ?_
 change AT _ _ _ ⟨[(0, agD d), (1, .tv (.sli 1 (c.map encI)))], [], [], 0⟩
 refine at_agD 0 rfl (fun hlen => ?_)
 refine at_len 1 rfl (fun hlen2 => ?_)
 refine at_B [1, 2] [] [] [(1000000, .any), (1, .tv (.sli 1 (c.map encI))), (2, .ptr [0] 0)] [([0], .row ((celD d).map .tv) false)] 2 (by kernel_rfl) ?_ ?_
 ·exact trivial
 refine at_seq ?_
 refine at_B [1, 2, 17] [.std, .ret (.b (validD d))] [PureCall Tryd.prog 25 [agD d] (.b (validD d))] [(1000000, .any), (1, .tv (.sli 1 (c.map encI))), (2, .ptr [0] 0), (17, .b ((!(validD d)) || (!decide ((((c.map encI).length : Nat) : Int) = (((d.fs.map celC).length : Nat) : Int)))))] [([0], .row ((celD d).map .tv) false)] 13 (by kernel_rfl) ?_ ?_
 ·exact ⟨(c25 d), trivial⟩
 refine at_cond (b := ((!(validD d)) || (!decide ((((c.map encI).length : Nat) : Int) = (((d.fs.map celC).length : Nat) : Int))))) rfl rfl (fun hc17 => ?_) (fun hc17 => ?_)
 ·have q17 := hc17
  (try simp only [brs] at q17)
  refine at_B [4] [] [] [(1000000, .any), (4, .b false)] [([0], .row ((celD d).map .tv) false)] 14 (by kernel_rfl) ?_ ?_
  ·exact trivial
  refine at_ret ?_
  refine fin0 (.inr rfl) (.b false) [([0], .row ((celD d).map .tv) false)] (.b false) (H2 := [([0], .row ((celD d).map .tv) false)]) (by kernel_rfl) (by kernel_rfl) ?_
  refine Le.of_eq ?_
  simp only [List.length_map] at hc17
  rw [fitsD, hc17]; rfl
 ·have q17 := hc17
  (try simp only [brs] at q17)
  have hcl := q17.2
  refine at_skip ?_
  change AT _ _ _ _
  refine at_seq ?_
  refine at_B [1, 19, 20, 21] [] [] [(1000000, .any), (1, .tv (.sli 1 (c.map encI))), (19, .tv (.sli 4 (d.fs.map celC))), (20, .i (((d.fs.map celC).length : Nat) : Int)), (21, .i 0)] [([0], .row ((celD d).map .tv) false)] 17 (by kernel_rfl) ?_ ?_
  ·exact trivial
  refine at_block ?_
  refine at_loopR (X := Nat) 0 (fun (i : Nat) => [(1000000, .any), (1, .tv (.sli 1 (c.map encI))), (19, .tv (.sli 4 (d.fs.map celC))), (20, .i (((d.fs.map celC).length : Nat) : Int)), (21, .i ((i : Nat) : Int))]) (fun (i : Nat) => [([0], .row ((celD d).map .tv) false)]) (fun (i : Nat) => i ≤ d.fs.length ∧ ∀ j, j < i → outC c d.fs j = false) (fun (i : Nat) => d.fs.length - i) 0 ?_ ?_ ?_
  ·exact ⟨Nat.zero_le _, fun j hj => absurd hj (Nat.not_lt_zero j)⟩
  ·exact rn_ok [([0], [0])] [] [1, 19, 20, 21] (trivial) (by kernel_rfl)
  ·intro i hinv
   obtain ⟨hx1, hx2⟩ := hinv
   refine at_B [1, 19, 20, 21, 22] [] [] [(1000000, .any), (1, .tv (.sli 1 (c.map encI))), (19, .tv (.sli 4 (d.fs.map celC))), (20, .i (((d.fs.map celC).length : Nat) : Int)), (21, .i ((i : Nat) : Int)), (22, .b (decide (((i : Nat) : Int) < (((d.fs.map celC).length : Nat) : Int))))] [([0], .row ((celD d).map .tv) false)] 1 (by kernel_rfl) ?_ ?_
   ·exact trivial
   refine at_seq ?_
   refine at_cond (b := (decide (((i : Nat) : Int) < (((d.fs.map celC).length : Nat) : Int)))) rfl rfl (fun hc22 => ?_) (fun hc22 => ?_)
   ·have q22 := hc22
    (try simp only [brs] at q22)
    refine at_skip ?_
    change AT _ _ _ _
    refine at_seq ?_
    refine at_block ?_
    refine at_B [1, 5, 6, 19, 20, 21] [.std, .eq (.tv (.ptr (celC (d.fs.getD i Fc.z))))] [(0 ≤ ((i : Nat) : Int) ∧ ((i : Nat) : Int) < ((((d.fs.map celC) : List (List TV)).length : Nat) : Int)), (.tv (.ptr (rowAt (d.fs.map celC) ((i : Nat) : Int))) : AV) = .tv (.ptr (celC (d.fs.getD i Fc.z)))] [(1000000, .any), (1, .tv (.sli 1 (c.map encI))), (5, .i ((i : Nat) : Int)), (6, .ptr [4, 17] 0), (19, .tv (.sli 4 (d.fs.map celC))), (20, .i (((d.fs.map celC).length : Nat) : Int)), (21, .i ((i : Nat) : Int))] (b30_2 d i) 7 (by kernel_rfl) ?_ ?_
    ·exact ⟨by (try simp only [lns] at *); omega, congrArg (fun c => AV.tv (.ptr c)) (row_C d.fs ((i : Nat) : Int) (by (try simp only [brs, lns] at *); omega)), trivial⟩
    refine at_D [none, none, none, some [], none, some [[4, 17]], none, none, none, none, none, some [], none, some [[4, 17]]] [0, 0, 3, 7, 0, 16, 63, 127, 255, 255, 1023, 2047, 255, 4351, 16383, 32767] [1, 19, 20, 21, 41] [.std, .std, .eq (.tv (.ptr [.int .i64 (c.getD i 0)])), .std, .std, .std, .std, .std, .std, .std, .eq (.tv (.ptr [.int .i64 (c.getD i 0)]))] [(0 ≤ ((i : Nat) : Int) ∧ ((i : Nat) : Int) < ((((c.map encI) : List (List TV)).length : Nat) : Int)), (.tv (.ptr (rowAt (c.map encI) ((i : Nat) : Int))) : AV) = .tv (.ptr [.int .i64 (c.getD i 0)]), ((decide ((c.getD i 0) < (d.fs.getD i Fc.z).lo)) = false) → (0 ≤ ((i : Nat) : Int) ∧ ((i : Nat) : Int) < ((((c.map encI) : List (List TV)).length : Nat) : Int)), ((decide ((c.getD i 0) < (d.fs.getD i Fc.z).lo)) = false) → (.tv (.ptr (rowAt (c.map encI) ((i : Nat) : Int))) : AV) = .tv (.ptr [.int .i64 (c.getD i 0)])] [(1000000, .any), (1, .tv (.sli 1 (c.map encI))), (19, .tv (.sli 4 (d.fs.map celC))), (20, .i (((d.fs.map celC).length : Nat) : Int)), (21, .i ((i : Nat) : Int)), (41, .b ((decide ((c.getD i 0) < (d.fs.getD i Fc.z).lo)) || (decide ((d.fs.getD i Fc.z).hi < (c.getD i 0)))))] (b30_2 d i) 23 (by kernel_rfl) ?_ ?_
    ·exact ⟨by (try simp only [lns] at *); omega, congrArg (fun c => AV.tv (.ptr c)) (row_enc encI c ((i : Nat) : Int) 0 (by (try simp only [brs, lns] at *); omega)), fun hg0 => by (try simp only [brs, lns] at *); omega, fun hg0 => congrArg (fun c => AV.tv (.ptr c)) (row_enc encI c ((i : Nat) : Int) 0 (by (try simp only [brs, lns] at *); omega)), trivial⟩
    refine at_cond (b := ((decide ((c.getD i 0) < (d.fs.getD i Fc.z).lo)) || (decide ((d.fs.getD i Fc.z).hi < (c.getD i 0))))) rfl rfl (fun hc41 => ?_) (fun hc41 => ?_)
    ·have q41 := hc41
     (try simp only [brs] at q41)
     refine at_B [4] [] [] [(1000000, .any), (4, .b false)] (b30_2 d i) 24 (by kernel_rfl) ?_ ?_
     ·exact trivial
     refine at_ret ?_
     refine fin0 (.inr rfl) (.b false) (b30_2 d i) (.b false) (H2 := (b30_2 d i)) (by kernel_rfl) (by kernel_rfl) ?_
     refine Le.of_eq ?_
     simp only [List.length_map] at hc17
     rw [fitsD, hc17, cond_false, rall_no (p := outC c d.fs) (by omega) hc41]
    ·have q41 := hc41
     (try simp only [brs] at q41)
     refine at_skip ?_
     change AT _ _ _ _
     refine at_Bl [1, 19, 20, 21] [.eq (.i ((i + 1 : Nat) : Int))] [(.i (wr (((i : Nat) : Int) + 1)) : AV) = .i ((i + 1 : Nat) : Int)] [(1000000, .any), (1, .tv (.sli 1 (c.map encI))), (19, .tv (.sli 4 (d.fs.map celC))), (20, .i (((d.fs.map celC).length : Nat) : Int)), (21, .i ((i + 1 : Nat) : Int))] (b30_2 d i) 25 (by kernel_rfl) ?_ ?_
     ·exact ⟨succ_av i (by (try simp only [lns] at *); omega), trivial⟩
     refine ⟨rfl, (i + 1), ?_, ?_, ?_⟩
     ·(try dsimp only); omega
     ·exact ⟨by omega, fun j hj => (if e : j = i then e ▸ hc41 else hx2 j (by omega))⟩
     ·exact rn_ok [([0], [0])] [] [1, 19, 20, 21] (trivial) (by kernel_rfl)
   ·have q22 := hc22
    (try simp only [brs] at q22)
    refine at_exit ?_
    change AT _ _ _ _
    refine at_B [4] [] [] [(1000000, .any), (4, .b true)] [([0], .row ((celD d).map .tv) false)] 19 (by kernel_rfl) ?_ ?_
    ·exact trivial
    refine at_ret ?_
    refine fin0 (.inr rfl) (.b true) [([0], .row ((celD d).map .tv) false)] (.b true) (H2 := [([0], .row ((celD d).map .tv) false)]) (by kernel_rfl) (by kernel_rfl) ?_
    refine Le.of_eq ?_
    simp only [List.length_map] at hc17
    rw [fitsD, hc17, cond_false, rall_yes (p := outC c d.fs) (m := i) (by omega) hx2]
end Go.Proofs.YtphmhelkojdlaaaDoor
namespace Go.Proofs.YtphmhelkojdlaaaDoor
open Go.RowKit
set_option linter.unusedSimpArgs false
set_option linter.unusedVariables false
end Go.Proofs.YtphmhelkojdlaaaDoor
namespace Go.Proofs.YtphmhelkojdlaaaDoor
open Go.RowKit
set_option maxRecDepth 10000
set_option linter.unusedSimpArgs false
set_option linter.unusedVariables false
theorem c90 (n : Int)  : PureCall Tryd.prog 90 [.i n] (.b false) := by
 refine walk0 (fn := Tryd.f90) [.tmp 2] Tryd.func90 rfl (by kernel_rfl) rfl (by kernel_rfl) (by kernel_rfl) ?_
 change AT _ _ _ ⟨[(0, .i n)], [], [], 0⟩
 refine at_B [0] [] [] [(1000000, .any), (0, .i n)] [] 1 (by kernel_rfl) ?_ ?_
 ·exact trivial
 refine at_B [2] [] [] [(1000000, .any), (2, .b (!decide (n = n)))] [] 5 (by kernel_rfl) ?_ ?_
 ·exact trivial
 refine at_ret ?_
 refine fin0 (.inr rfl) (.b (!decide (n = n))) [] (.b (!decide (n = n))) (H2 := []) (by kernel_rfl) (by kernel_rfl) ?_
 refine Le.of_eq ?_
 simp
def cmpI (a : Int) (b : Int) : Int := bif (decide (a < b)) then ((-1)) else (bif (decide (b < a)) then (1) else (0))
theorem c77 (a : Int) (b : Int)  : PureCall Tryd.prog 77 [.i a, .i b] (.i (cmpI a b)) := by
 refine walk0 (fn := Tryd.f77) [.tmp 4] Tryd.func77 rfl (by kernel_rfl) rfl (by kernel_rfl) (by kernel_rfl) ?_
 change AT _ _ _ ⟨[(0, .i a), (1, .i b)], [], [], 0⟩
 refine at_B [0, 1] [] [] [(1000000, .any), (0, .i a), (1, .i b)] [] 1 (by kernel_rfl) ?_ ?_
 ·exact trivial
 refine at_B [0, 1, 5] [.std, .ret (.b false)] [PureCall Tryd.prog 90 [.i a] (.b false)] [(1000000, .any), (0, .i a), (1, .i b), (5, .b false)] [] 4 (by kernel_rfl) ?_ ?_
 ·exact ⟨(c90 a), trivial⟩
 refine at_B [0, 1, 5, 6] [.std, .ret (.b false)] [PureCall Tryd.prog 90 [.i b] (.b false)] [(1000000, .any), (0, .i a), (1, .i b), (5, .b false), (6, .b false)] [] 7 (by kernel_rfl) ?_ ?_
 ·exact ⟨(c90 b), trivial⟩
 refine at_seq ?_
 refine at_B [0, 1, 6, 11] [] [] [(1000000, .any), (0, .i a), (1, .i b), (6, .b false), (11, .b false)] [] 8 (by kernel_rfl) ?_ ?_
 ·exact trivial
 refine at_cond (b := false) rfl rfl (fun h => ?_) (fun h => ?_)
 ·cases h
 clear h
 refine at_skip ?_
 change AT _ _ _ _
 refine at_seq ?_
 refine at_B [0, 1, 13] [] [] [(1000000, .any), (0, .i a), (1, .i b), (13, .b false)] [] 9 (by kernel_rfl) ?_ ?_
 ·exact trivial
 refine at_cond (b := false) rfl rfl (fun h => ?_) (fun h => ?_)
 ·cases h
 clear h
 refine at_skip ?_
 change AT _ _ _ _
 refine at_seq ?_
 refine at_B [0, 1, 16] [] [] [(1000000, .any), (0, .i a), (1, .i b), (16, .b (decide (a < b)))] [] 12 (by kernel_rfl) ?_ ?_
 ·exact trivial
 refine at_cond (b := (decide (a < b))) rfl rfl (fun hc16 => ?_) (fun hc16 => ?_)
 ·have q16 := hc16
  (try simp only [brs] at q16)
  refine at_B [4] [] [] [(1000000, .any), (4, .i (-1))] [] 13 (by kernel_rfl) ?_ ?_
  ·exact trivial
  refine at_ret ?_
  refine fin0 (.inr rfl) (.i (-1)) [] (.i (-1)) (H2 := []) (by kernel_rfl) (by kernel_rfl) ?_
  refine Le.of_eq ?_
  first | rfl | (simp only [cmpI, hc16, cond_true, cond_false]; done) | (simp only [cmpI, hc16, cond_true, cond_false]; rfl)
 ·have q16 := hc16
  (try simp only [brs] at q16)
  refine at_skip ?_
  change AT _ _ _ _
  refine at_seq ?_
  refine at_B [19] [] [] [(1000000, .any), (19, .b (decide (b < a)))] [] 15 (by kernel_rfl) ?_ ?_
  ·exact trivial
  refine at_cond (b := (decide (b < a))) rfl rfl (fun hc19 => ?_) (fun hc19 => ?_)
  ·have q19 := hc19
   (try simp only [brs] at q19)
   refine at_B [4] [] [] [(1000000, .any), (4, .i 1)] [] 16 (by kernel_rfl) ?_ ?_
   ·exact trivial
   refine at_ret ?_
   refine fin0 (.inr rfl) (.i 1) [] (.i 1) (H2 := []) (by kernel_rfl) (by kernel_rfl) ?_
   refine Le.of_eq ?_
   first | rfl | (simp only [cmpI, hc16, hc19, cond_true, cond_false]; done) | (simp only [cmpI, hc16, hc19, cond_true, cond_false]; rfl)
  ·have q19 := hc19
   (try simp only [brs] at q19)
   refine at_skip ?_
   change AT _ _ _ _
   refine at_B [4] [] [] [(1000000, .any), (4, .i 0)] [] 16 (by kernel_rfl) ?_ ?_
   ·exact trivial
   refine at_ret ?_
   refine fin0 (.inr rfl) (.i 0) [] (.i 0) (H2 := []) (by kernel_rfl) (by kernel_rfl) ?_
   refine Le.of_eq ?_
   first | rfl | (simp only [cmpI, hc16, hc19, cond_true, cond_false]; done) | (simp only [cmpI, hc16, hc19, cond_true, cond_false]; rfl)
def cmpP (a : Int) (how : Int) (b : Int) : Bool := (((((((decide (how = (1 : Int))) && (decide ((cmpI a b) = (0 : Int)))) || ((decide (how = (2 : Int))) && (!decide ((cmpI a b) = (0 : Int))))) || ((decide (how = (3 : Int))) && (decide ((cmpI a b) < (0 : Int))))) || ((decide (how = (4 : Int))) && (decide ((cmpI a b) ≤ (0 : Int))))) || ((decide (how = (5 : Int))) && (decide ((0 : Int) < (cmpI a b))))) || ((decide (how = (6 : Int))) && (decide ((0 : Int) ≤ (cmpI a b)))))
theorem c56 (a : Int) (how : Int) (b : Int)  : PureCall Tryd.prog 56 [.i a, .i how, .i b] (.b (cmpP a how b)) := by
 refine walk0 (fn := Tryd.f56) [.tmp 6] Tryd.func56 rfl (by kernel_rfl) rfl (by kernel_rfl) (by kernel_rfl) ?_
 change AT _ _ _ ⟨[(0, .i a), (1, .i how), (2, .i b)], [], [], 0⟩
 refine at_B [0, 1, 2] [] [] [(1000000, .any), (0, .i a), (1, .i how), (2, .i b)] [] 1 (by kernel_rfl) ?_ ?_
 ·exact trivial
 refine at_B [1, 7] [.std, .std, .ret (.i (cmpI a b))] [PureCall Tryd.prog 77 [.i a, .i b] (.i (cmpI a b))] [(1000000, .any), (1, .i how), (7, .i (cmpI a b))] [] 5 (by kernel_rfl) ?_ ?_
 ·exact ⟨(c77 a b), trivial⟩
 refine at_B [6] [] [] [(1000000, .any), (6, .b (((((((decide (how = (1 : Int))) && (decide ((cmpI a b) = (0 : Int)))) || ((decide (how = (2 : Int))) && (!decide ((cmpI a b) = (0 : Int))))) || ((decide (how = (3 : Int))) && (decide ((cmpI a b) < (0 : Int))))) || ((decide (how = (4 : Int))) && (decide ((cmpI a b) ≤ (0 : Int))))) || ((decide (how = (5 : Int))) && (decide ((0 : Int) < (cmpI a b))))) || ((decide (how = (6 : Int))) && (decide ((0 : Int) ≤ (cmpI a b))))))] [] 52 (by kernel_rfl) ?_ ?_
 ·exact trivial
 refine at_ret ?_
 refine fin0 (.inr rfl) (.b (((((((decide (how = (1 : Int))) && (decide ((cmpI a b) = (0 : Int)))) || ((decide (how = (2 : Int))) && (!decide ((cmpI a b) = (0 : Int))))) || ((decide (how = (3 : Int))) && (decide ((cmpI a b) < (0 : Int))))) || ((decide (how = (4 : Int))) && (decide ((cmpI a b) ≤ (0 : Int))))) || ((decide (how = (5 : Int))) && (decide ((0 : Int) < (cmpI a b))))) || ((decide (how = (6 : Int))) && (decide ((0 : Int) ≤ (cmpI a b)))))) [] (.b (((((((decide (how = (1 : Int))) && (decide ((cmpI a b) = (0 : Int)))) || ((decide (how = (2 : Int))) && (!decide ((cmpI a b) = (0 : Int))))) || ((decide (how = (3 : Int))) && (decide ((cmpI a b) < (0 : Int))))) || ((decide (how = (4 : Int))) && (decide ((cmpI a b) ≤ (0 : Int))))) || ((decide (how = (5 : Int))) && (decide ((0 : Int) < (cmpI a b))))) || ((decide (how = (6 : Int))) && (decide ((0 : Int) ≤ (cmpI a b)))))) (H2 := []) (by kernel_rfl) (by kernel_rfl) ?_
 refine Le.of_eq ?_
 first | rfl | (simp only [cmpP, cond_true, cond_false]; done) | (simp only [cmpP, cond_true, cond_false]; rfl)
end Go.Proofs.YtphmhelkojdlaaaDoor
namespace Go.Proofs.YtphmhelkojdlaaaDoor
open Go.RowKit
set_option linter.unusedSimpArgs false
set_option linter.unusedVariables false
theorem sameFs_step {l m : List Fm} {i : Nat} (h : i < l.length) (hi : sameFs (l.drop i) (m.drop i) = sameFs l m) (hp : sameF (l.getD i Fm.z) (m.getD i Fm.z) = true) :
  sameFs (l.drop (i + 1)) (m.drop (i + 1)) = sameFs l m := by
 rw [drop_get l i Fm.z h, sameFs, getD_drop, hp, Bool.true_and, List.drop_drop] at hi; exact hi
theorem sameFs_stop {l m : List Fm} {i : Nat} (h : i < l.length) (hi : sameFs (l.drop i) (m.drop i) = sameFs l m) (hp : sameF (l.getD i Fm.z) (m.getD i Fm.z) = false) : sameFs l m = false := by
 rw [drop_get l i Fm.z h, sameFs, getD_drop, hp, Bool.false_and] at hi; exact hi.symm
theorem sameFs_end {l m : List Fm} {i : Nat} (h : l.length ≤ i) (hi : sameFs (l.drop i) (m.drop i) = sameFs l m) : sameFs l m = true := by
 rw [List.drop_of_length_le h] at hi; exact hi.symm
end Go.Proofs.YtphmhelkojdlaaaDoor
namespace Go.Proofs.YtphmhelkojdlaaaDoor
open Go.RowKit
set_option maxRecDepth 10000
set_option linter.unusedSimpArgs false
set_option linter.unusedVariables false
noncomputable abbrev b22_1 (g : Fm) (f : Fm) : Hp := [([1], .row ((celF g).map .tv) false), ([0], .row ((celF f).map .tv) false)]
theorem c22 : ∀ (f : Fm) (g : Fm), PureCall Tryd.prog 22 [agF f, agF g] (.b (sameF f g)) := by
 refine Fm.ind (fun f ih => ?_)
 intro g
 refine walk0 (fn := Tryd.f22) [.tmp 4] Tryd.func22 rfl (by kernel_rfl) rfl (by kernel_rfl) (by kernel_rfl) ?_
 change AT _ _ _ ⟨[(0, agF f), (1, agF g)], [], [], 0⟩
 refine at_agF 0 rfl (fun hlen => ?_)
 refine at_agF 1 rfl (fun hlen2 => ?_)
 refine at_B [2, 3] [] [] [(1000000, .any), (2, .ptr [0] 0), (3, .ptr [1] 0)] (b22_1 g f) 3 (by kernel_rfl) ?_ ?_
 ·exact trivial
 refine at_seq ?_
 refine at_B [2, 3, 40] [] [] [(1000000, .any), (2, .ptr [0] 0), (3, .ptr [1] 0), (40, .b (((((!decide (f.op = g.op)) || (!decide (f.nm = g.nm))) || (!decide (f.cm = g.cm))) || (!decide (f.n = g.n))) || (!decide ((((f.ks.map encF).length : Nat) : Int) = (((g.ks.map encF).length : Nat) : Int)))))] (b22_1 g f) 38 (by kernel_rfl) ?_ ?_
 ·exact trivial
 refine at_cond (b := (((((!decide (f.op = g.op)) || (!decide (f.nm = g.nm))) || (!decide (f.cm = g.cm))) || (!decide (f.n = g.n))) || (!decide ((((f.ks.map encF).length : Nat) : Int) = (((g.ks.map encF).length : Nat) : Int))))) rfl rfl (fun hc40 => ?_) (fun hc40 => ?_)
 ·have q40 := hc40
  (try simp only [brs] at q40)
  refine at_B [4] [] [] [(1000000, .any), (4, .b false)] (b22_1 g f) 39 (by kernel_rfl) ?_ ?_
  ·exact trivial
  refine at_ret ?_
  refine fin0 (.inr rfl) (.b false) (b22_1 g f) (.b false) (H2 := (b22_1 g f)) (by kernel_rfl) (by kernel_rfl) ?_
  refine Le.of_eq ?_
  rw [sameF_eq]
  simp only [AV.tv.injEq, TV.bool.injEq]
  symm
  simp only [Bool.and_eq_false_iff, decide_eq_false_iff_not, Bool.and_eq_true]
  rcases q40 with (((q | q) | q) | q) | q <;> first | (simp [q]; done) | (have q' : ¬ f.ks.length = g.ks.length := (by omega); simp [q'])
 ·have q40 := hc40
  (try simp only [brs] at q40)
  refine at_skip ?_
  change AT _ _ _ _
  refine at_seq ?_
  refine at_B [2, 3, 5] [] [] [(1000000, .any), (2, .ptr [0] 0), (3, .ptr [1] 0), (5, .i 0)] (b22_1 g f) 39 (by kernel_rfl) ?_ ?_
  ·exact trivial
  refine at_block ?_
  have hl : f.ks.length = g.ks.length := by (have := q40.2); omega
  have hsm : (decide (f.op = g.op) && decide (f.nm = g.nm) && decide (f.cm = g.cm) && decide (f.n = g.n) && decide (f.ks.length = g.ks.length)) = true := by simp_all
  refine at_loopR (X := Nat) 0 (fun (i : Nat) => [(1000000, .any), (2, .ptr [0] 0), (3, .ptr [1] 0), (5, .i ((i : Nat) : Int))]) (fun (i : Nat) => (b22_1 g f)) (fun (i : Nat) => i ≤ f.ks.length ∧ sameFs (f.ks.drop i) (g.ks.drop i) = sameFs f.ks g.ks) (fun (i : Nat) => f.ks.length - i) 0 ?_ ?_ ?_
  ·exact ⟨Nat.zero_le _, rfl⟩
  ·exact rn_ok [([1], [1]), ([0], [0])] [] [2, 3, 5] (trivial) (by kernel_rfl)
  ·intro i hinv
   obtain ⟨hx1, hx2⟩ := hinv
   refine at_seq ?_
   refine at_B [2, 3, 5, 45] [] [] [(1000000, .any), (2, .ptr [0] 0), (3, .ptr [1] 0), (5, .i ((i : Nat) : Int)), (45, .b (decide (((i : Nat) : Int) < (((f.ks.map encF).length : Nat) : Int))))] (b22_1 g f) 5 (by kernel_rfl) ?_ ?_
   ·exact trivial
   refine at_cond (b := (decide (((i : Nat) : Int) < (((f.ks.map encF).length : Nat) : Int)))) rfl rfl (fun hc45 => ?_) (fun hc45 => ?_)
   ·have q45 := hc45
    (try simp only [brs] at q45)
    refine at_skip ?_
    change AT _ _ _ _
    refine at_seq ?_
    refine at_block ?_
    refine at_D [none, some [[0]], none, none, some [], none, some [[1]], none, none, some []] [0, 1, 0, 7, 15, 0, 32, 0, 224, 480, 1023, 2047] [2, 3, 5, 59] [.std, .std, .std, .eq (.tv (.ptr (celF (f.ks.getD i Fm.z)))), .std, .std, .std, .std, .eq (.tv (.ptr (celF (g.ks.getD i Fm.z)))), .std, .ret (.b (sameF (f.ks.getD i Fm.z) (g.ks.getD i Fm.z)))] [(0 ≤ ((i : Nat) : Int) ∧ ((i : Nat) : Int) < ((((f.ks.map encF) : List (List TV)).length : Nat) : Int)), (.tv (.ptr (rowAt (f.ks.map encF) ((i : Nat) : Int))) : AV) = .tv (.ptr (celF (f.ks.getD i Fm.z))), (0 ≤ ((i : Nat) : Int) ∧ ((i : Nat) : Int) < ((((g.ks.map encF) : List (List TV)).length : Nat) : Int)), (.tv (.ptr (rowAt (g.ks.map encF) ((i : Nat) : Int))) : AV) = .tv (.ptr (celF (g.ks.getD i Fm.z))), PureCall Tryd.prog 22 [agF (f.ks.getD i Fm.z), agF (g.ks.getD i Fm.z)] (.b (sameF (f.ks.getD i Fm.z) (g.ks.getD i Fm.z)))] [(1000000, .any), (2, .ptr [0] 0), (3, .ptr [1] 0), (5, .i ((i : Nat) : Int)), (59, .b (!(sameF (f.ks.getD i Fm.z) (g.ks.getD i Fm.z))))] (b22_1 g f) 17 (by kernel_rfl) ?_ ?_
    ·exact ⟨by (try simp only [lns] at *); omega, congrArg (fun c => AV.tv (.ptr c)) (row_F f.ks ((i : Nat) : Int) (by (try simp only [brs, lns] at *); omega)), by (try simp only [lns] at *); omega, congrArg (fun c => AV.tv (.ptr c)) (row_F g.ks ((i : Nat) : Int) (by (try simp only [brs, lns] at *); omega)), (ih _ (getD_mem (by omega)) _), trivial⟩
    refine at_cond (b := (!(sameF (f.ks.getD i Fm.z) (g.ks.getD i Fm.z)))) rfl rfl (fun hc59 => ?_) (fun hc59 => ?_)
    ·have q59 := hc59
     (try simp only [brs] at q59)
     refine at_B [4] [] [] [(1000000, .any), (4, .b false)] (b22_1 g f) 18 (by kernel_rfl) ?_ ?_
     ·exact trivial
     refine at_ret ?_
     refine fin0 (.inr rfl) (.b false) (b22_1 g f) (.b false) (H2 := (b22_1 g f)) (by kernel_rfl) (by kernel_rfl) ?_
     refine Le.of_eq ?_
     rw [sameF_eq, sameFs_stop (i := i) (by omega) hx2 (by simpa using hc59), Bool.and_false]
    ·have q59 := hc59
     (try simp only [brs] at q59)
     refine at_skip ?_
     change AT _ _ _ _
     refine at_Bl [2, 3, 5] [.std, .eq (.i ((i + 1 : Nat) : Int))] [(.i (wr (((i : Nat) : Int) + 1)) : AV) = .i ((i + 1 : Nat) : Int)] [(1000000, .any), (2, .ptr [0] 0), (3, .ptr [1] 0), (5, .i ((i + 1 : Nat) : Int))] (b22_1 g f) 20 (by kernel_rfl) ?_ ?_
     ·exact ⟨succ_av i (by (try simp only [lns] at *); omega), trivial⟩
     refine ⟨rfl, (i + 1), ?_, ?_, ?_⟩
     ·(try dsimp only); omega
     ·exact ⟨by omega, sameFs_step (by omega) hx2 (by simpa using hc59)⟩
     ·exact rn_ok [([1], [1]), ([0], [0])] [] [2, 3, 5] (trivial) (by kernel_rfl)
   ·have q45 := hc45
    (try simp only [brs] at q45)
    refine at_exit ?_
    change AT _ _ _ _
    refine at_B [4] [] [] [(1000000, .any), (4, .b true)] (b22_1 g f) 41 (by kernel_rfl) ?_ ?_
    ·exact trivial
    refine at_ret ?_
    refine fin0 (.inr rfl) (.b true) (b22_1 g f) (.b true) (H2 := (b22_1 g f)) (by kernel_rfl) (by kernel_rfl) ?_
    refine Le.of_eq ?_
    rw [sameF_eq, hsm, sameFs_end (i := i) (by omega) hx2]; rfl
end Go.Proofs.YtphmhelkojdlaaaDoor
namespace Go.Proofs.YtphmhelkojdlaaaDoor
open Go.RowKit
set_option linter.unusedSimpArgs false
set_option linter.unusedVariables false
mutual
/-- The number of nodes. -/
def nF : Fm → Nat
 | .mk _ _ _ _ ks => 1 + nFs ks
def nFs : List Fm → Nat
 | [] => 0
 | k :: r => nF k + nFs r
end
theorem nF_eq (f : Fm) : nF f = 1 + nFs f.ks := by cases f; rfl
theorem nF_pos (f : Fm) : 1 ≤ nF f := by rw [nF_eq]; omega
end Go.Proofs.YtphmhelkojdlaaaDoor
namespace Go.Proofs.YtphmhelkojdlaaaDoor
open Go.RowKit
set_option maxRecDepth 10000
set_option linter.unusedSimpArgs false
set_option linter.unusedVariables false
end Go.Proofs.YtphmhelkojdlaaaDoor
namespace Go.Proofs.YtphmhelkojdlaaaDoor
open Go.RowKit
set_option maxRecDepth 10000
set_option linter.unusedSimpArgs false
set_option linter.unusedVariables false
def formedR (f : Fm) : Bool := bif (bif (decide (f.op = (1 : Int))) then (decide (f.op = (1 : Int))) else (decide (f.op = (2 : Int)))) then (((((decide (f.nm = ⟨#[]⟩)) && (decide (f.cm = (0 : Int)))) && (decide (f.n = (0 : Int)))) && (decide ((((f.ks.map encF).length : Nat) : Int) = (0 : Int))))) else (bif (decide (f.op = (3 : Int))) then (((((decide ((1 : Int) ≤ f.cm)) && (decide (f.cm ≤ (6 : Int)))) && (decide ((((f.ks.map encF).length : Nat) : Int) = (0 : Int)))) && (nameP f.nm))) else (bif (decide (f.op = (4 : Int))) then (((((decide (f.cm = (0 : Int))) && (decide (f.n = (0 : Int)))) && (decide ((((f.ks.map encF).length : Nat) : Int) = (0 : Int)))) && (nameP f.nm))) else (bif (decide (f.op = (5 : Int))) then (((((decide (f.nm = ⟨#[]⟩)) && (decide (f.cm = (0 : Int)))) && (decide (f.n = (0 : Int)))) && (decide ((((f.ks.map encF).length : Nat) : Int) = (1 : Int))))) else (bif (bif (decide (f.op = (6 : Int))) then (decide (f.op = (6 : Int))) else (decide (f.op = (7 : Int)))) then (((((decide (f.nm = ⟨#[]⟩)) && (decide (f.cm = (0 : Int)))) && (decide (f.n = (0 : Int)))) && (decide ((2 : Int) ≤ (((f.ks.map encF).length : Nat) : Int))))) else (false)))))
def cmpR (a : Int) (how : Int) (b : Int) : Bool := bif (decide (how = (1 : Int))) then ((decide (a = b))) else (bif (decide (how = (2 : Int))) then ((!decide (a = b))) else (bif (decide (how = (3 : Int))) then ((decide (a < b))) else (bif (decide (how = (4 : Int))) then ((decide (a ≤ b))) else (bif (decide (how = (5 : Int))) then ((decide (b < a))) else ((decide (b ≤ a)))))))
def largeR (f : Fm) : Bool := ((decide ((200 : Int) < (szF f).1)) || (decide ((20 : Int) < (szF f).2)))
end Go.Proofs.YtphmhelkojdlaaaDoor
namespace Go.Proofs.YtphmhelkojdlaaaDoor
open Go.RowKit
set_option linter.unusedSimpArgs false
set_option linter.unusedVariables false
mutual
def errF (e : Fm → Int) : Fm → Int
 | .mk o nm c n ks => bif decide (e (.mk o nm c n ks) = 0) then errFs e ks else e (.mk o nm c n ks)
def errFs (e : Fm → Int) : List Fm → Int
 | [] => 0
 | k :: r => bif decide (errF e k = 0) then errFs e r else errF e k
end
theorem errF_eq (e : Fm → Int) (f : Fm) : errF e f = bif decide (e f = 0) then errFs e f.ks else e f := by
 cases f; simp only [errF, Fm.ks]
theorem err_step {e : Fm → Int} {l : List Fm} {i : Nat} {b : Int} (h : i < l.length) (hi : errFs e (l.drop i) = b) (hb : errF e (l.getD i Fm.z) = 0) : errFs e (l.drop (i + 1)) = b := by
 rw [drop_get l i Fm.z h, errFs, hb] at hi; exact hi
theorem err_stop {e : Fm → Int} {l : List Fm} {i : Nat} {b : Int} (h : i < l.length) (hi : errFs e (l.drop i) = b) (hb : ¬ errF e (l.getD i Fm.z) = 0) : b = errF e (l.getD i Fm.z) := by
 rw [drop_get l i Fm.z h, errFs, decide_eq_false hb] at hi; exact hi.symm
theorem err_end {e : Fm → Int} {l : List Fm} {i : Nat} {b : Int} (h : l.length ≤ i) (hi : errFs e (l.drop i) = b) : b = 0 := by
 rw [List.drop_of_length_le h] at hi; exact hi.symm
def rangeE (f : Fm) : Bool := decide (f.op = 3) && (decide (f.n < 0) || decide (1000000 < f.n))
def nameE (d : Dm) (l : List ByteArray) (all : Bool) (f : Fm) : Bool := (decide (f.op = 3) && decide (idxF (fcN f.nm) d.fs 0 < 0)) || ((decide (f.op = 4) && (!all)) && (!(List.any l (eqR f.nm))))
def oneR (d : Dm) (l : List ByteArray) (all : Bool) (f : Fm) : Int := bif (!(formedR f)) then 1 else bif rangeE f then 10 else bif nameE d l all f then 7 else 0
theorem one_1 {d : Dm} {l : List ByteArray} {all : Bool} {f : Fm} (h : (!(formedR f)) = true) : oneR d l all f = 1 := by rw [oneR, h]; rfl
theorem one_10 {d : Dm} {l : List ByteArray} {all : Bool} {f : Fm} (h : (!(formedR f)) = false) (h2 : rangeE f = true) : oneR d l all f = 10 := by rw [oneR, h, h2]; rfl
theorem one_7 {d : Dm} {l : List ByteArray} {all : Bool} {f : Fm} (h : (!(formedR f)) = false) (h2 : rangeE f = false) (h3 : nameE d l all f = true) : oneR d l all f = 7 := by rw [oneR, h, h2, h3]; rfl
theorem one_0 {d : Dm} {l : List ByteArray} {all : Bool} {f : Fm} (h : (!(formedR f)) = false) (h2 : rangeE f = false) (h3 : nameE d l all f = false) : oneR d l all f = 0 := by rw [oneR, h, h2, h3]; rfl
end Go.Proofs.YtphmhelkojdlaaaDoor
namespace Go.Proofs.YtphmhelkojdlaaaDoor
open Go.RowKit
set_option maxRecDepth 10000
set_option linter.unusedSimpArgs false
set_option linter.unusedVariables false
end Go.Proofs.YtphmhelkojdlaaaDoor
namespace Go.Proofs.YtphmhelkojdlaaaDoor
open Go.RowKit
set_option linter.unusedSimpArgs false
set_option linter.unusedVariables false
def checkR (f : Fm) (d : Dm) (l : List ByteArray) : Int := bif largeR f then 2 else errF (oneR d l false) f
mutual
def valF (d : Dm) (c : List Int) (l : List ByteArray) : Fm → Bool
 | .mk o nm cm n ks => bif decide (o = 1) then true else bif decide (o = 3) then cmpR (c.getD (idxF (fcN nm) d.fs 0).toNat 0) cm n else bif decide (o = 4) then List.any l (eqR nm) else bif decide (o = 5) then !valHd d c l ks else bif decide (o = 6) then valAll d c l ks else valAny d c l ks
def valHd (d : Dm) (c : List Int) (l : List ByteArray) : List Fm → Bool
 | [] => false
 | k :: _ => valF d c l k
def valAll (d : Dm) (c : List Int) (l : List ByteArray) : List Fm → Bool
 | [] => true
 | k :: r => valF d c l k && valAll d c l r
def valAny (d : Dm) (c : List Int) (l : List ByteArray) : List Fm → Bool
 | [] => false
 | k :: r => valF d c l k || valAny d c l r
end
theorem valF_eq (d : Dm) (c : List Int) (l : List ByteArray) (f : Fm) : valF d c l f = bif decide (f.op = 1) then true else bif decide (f.op = 3) then cmpR (c.getD (idxF (fcN f.nm) d.fs 0).toNat 0) f.cm f.n else bif decide (f.op = 4) then List.any l (eqR f.nm) else bif decide (f.op = 5) then !valHd d c l f.ks else bif decide (f.op = 6) then valAll d c l f.ks else valAny d c l f.ks := by
 cases f; simp only [valF, Fm.op, Fm.nm, Fm.cm, Fm.n, Fm.ks]; rfl
theorem errFs_mem {e : Fm → Int} {l : List Fm} (h : errFs e l = 0) : ∀ k ∈ l, errF e k = 0 := by
 induction l with
 | nil => intro k hk; simp at hk
 | cons x r ih =>
  intro k hk
  simp only [errFs] at h
  by_cases e0 : errF e x = 0
  ·rw [decide_eq_true e0, cond_true] at h
   simp only [List.mem_cons] at hk
   rcases hk with rfl | hk
   ·exact e0
   ·exact ih h k hk
  ·rw [decide_eq_false e0, cond_false] at h; exact absurd h e0
theorem errF_zero {e : Fm → Int} {f : Fm} (h : errF e f = 0) : e f = 0 ∧ ∀ k ∈ f.ks, errF e k = 0 := by
 rw [errF_eq] at h
 by_cases e0 : e f = 0
 ·rw [decide_eq_true e0, cond_true] at h; exact ⟨e0, errFs_mem h⟩
 ·rw [decide_eq_false e0, cond_false] at h; exact absurd h e0
theorem one_zero {d : Dm} {l : List ByteArray} {all : Bool} {f : Fm} (h : oneR d l all f = 0) : formedR f = true ∧ rangeE f = false ∧ nameE d l all f = false := by
 unfold oneR at h
 cases h1 : formedR f <;> cases h2 : rangeE f <;> cases h3 : nameE d l all f <;> rw [h1, h2, h3] at h <;> first | exact ⟨rfl, rfl, rfl⟩ | exact absurd h (by decide)
theorem idx_lt {α : Type} (p : α → Bool) (l : List α) : ∀ i : Nat, idxF p l i < (i : Int) + (l.length : Int) ∧ -1 ≤ idxF p l i := by
 induction l with
 | nil => intro i; simp only [idxF, List.length_nil]; omega
 | cons x r ih =>
  intro i
  have := ih (i + 1)
  simp only [idxF, List.length_cons]
  cases p x with
  | true => simp only [cond_true]; omega
  | false => simp only [cond_false]; omega
theorem val_ix {d : Dm} {l : List ByteArray} {all : Bool} {f : Fm} (h : nameE d l all f = false) (ho : decide (f.op = 3) = true) : 0 ≤ idxF (fcN f.nm) d.fs 0 ∧ idxF (fcN f.nm) d.fs 0 < (d.fs.length : Int) := by
 unfold nameE at h
 rw [ho, Bool.true_and, Bool.or_eq_false_iff, decide_eq_false_iff_not] at h
 have := idx_lt (fcN f.nm) d.fs 0
 omega
theorem val_kid {f : Fm} (h : formedR f = true) (ho : f.op = 5) : f.ks.length = 1 := by
 unfold formedR at h
 rw [ho] at h
 simp at h
 omega
theorem valHd_get {d : Dm} {c : List Int} {l : List ByteArray} {ks : List Fm} (h : 0 < ks.length) : valHd d c l ks = valF d c l (ks.getD 0 Fm.z) := by
 cases ks with
 | nil => simp at h
 | cons k r => rfl
end Go.Proofs.YtphmhelkojdlaaaDoor
namespace Go.Proofs.YtphmhelkojdlaaaDoor
open Go.RowKit
set_option maxRecDepth 10000
set_option linter.unusedSimpArgs false
set_option linter.unusedVariables false
end Go.Proofs.YtphmhelkojdlaaaDoor
namespace Go.Proofs.YtphmhelkojdlaaaDoor
open Go.RowKit
set_option linter.unusedSimpArgs false
set_option linter.unusedVariables false
end Go.Proofs.YtphmhelkojdlaaaDoor
namespace Go.Proofs.YtphmhelkojdlaaaDoor
open Go.RowKit
set_option maxRecDepth 10000
set_option linter.unusedSimpArgs false
set_option linter.unusedVariables false
end Go.Proofs.YtphmhelkojdlaaaDoor
