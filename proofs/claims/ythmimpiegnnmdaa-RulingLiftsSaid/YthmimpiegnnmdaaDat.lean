/- The program's data as plain data. -/
import Derived.Test.YthmimpiegnnmdaaProg
import Derived.Test.YthmimpiegnnmdaaAbs23
namespace Go.Proofs.Ythmimpiegnnmdaa
open Go.RowKit
set_option linter.unusedSimpArgs false
set_option linter.unusedVariables false

theorem i64_fit (n : Int) (h : -9223372036854775808 ≤ n ∧ n ≤ 9223372036854775807) : IntKind.i64.wrap n = n := by rw [IntKind.wrap_i64]; omega
abbrev wr (n : Int) : Int := IntKind.i64.wrap n
abbrev wk (k : IntKind) (n : Int) : Int := k.wrap n
abbrev mx (a b : Int) : Int := if b > a then b else a
abbrev mn (a b : Int) : Int := if b < a then b else a
theorem wr_fit (n : Int) (h : -9223372036854775808 ≤ n ∧ n ≤ 9223372036854775807) : wr n = n := i64_fit n h
theorem succ_av (i : Nat) (h : i < 9223372036854775807) : AV.tv (.int .i64 (wr ((i : Int) + 1))) = .tv (.int .i64 ((i + 1 : Nat) : Int)) := by
  rw [wr_fit _ (by omega)]; rfl
theorem fit_av (n : Int) (h : -9223372036854775808 ≤ n ∧ n ≤ 9223372036854775807) : AV.tv (.int .i64 (wr n)) = .tv (.int .i64 n) := by rw [wr_fit n h]
def encI (n : Int) : List TV := [.int .i64 n]
def encStr (s : ByteArray) : List TV := [.str s]
theorem row_I (l : List Int) (i : Int) (h : 0 ≤ i ∧ i < ((l.map encI).length : Int)) : rowAt (l.map encI) i = encI (l.getD i.toNat 0) := row_enc encI l i 0 h
theorem row_Str (l : List ByteArray) (i : Int) (h : 0 ≤ i ∧ i < ((l.map encStr).length : Int)) : rowAt (l.map encStr) i = encStr (l.getD i.toNat ByteArray.empty) := row_enc encStr l i _ h

/-- Formulas. -/
inductive Fm where
  | mk (op : Int) (nm : ByteArray) (cm n : Int) (ks : List Fm)
def Fm.op : Fm → Int | .mk o _ _ _ _ => o
def Fm.nm : Fm → ByteArray | .mk _ o _ _ _ => o
def Fm.cm : Fm → Int | .mk _ _ o _ _ => o
def Fm.n : Fm → Int | .mk _ _ _ o _ => o
def Fm.ks : Fm → List Fm | .mk _ _ _ _ o => o
def Fm.z : Fm := .mk 0 ByteArray.empty 0 0 []
theorem Fm.eta (f : Fm) : Fm.mk f.op f.nm f.cm f.n f.ks = f := by cases f; rfl
theorem Fm.ind {p : Fm → Prop} (h : ∀ f, (∀ k, k ∈ f.ks → p k) → p f) : ∀ f, p f
  | .mk o nm c n ks => h _ fun k hk => Fm.ind h k
  termination_by f => SizeOf.sizeOf f
  decreasing_by
  have := List.sizeOf_lt_of_mem hk
  simp only [Fm.ks] at this
  simp
  omega
mutual
def encF : Fm → List TV
  | .mk op nm c n ks => [.int .i64 op, .str nm, .int .i64 c, .int .i64 n, .sli 5 (encFs ks)]
def encFs : List Fm → List (List TV)
  | [] => []
  | k :: r => encF k :: encFs r
end
theorem encFs_map (ks : List Fm) : encFs ks = ks.map encF := by
  induction ks with
  | nil => rfl
  | cons k r ih => simp only [encFs, ih, List.map_cons]
def celF (f : Fm) : List TV := [.int .i64 f.op, .str f.nm, .int .i64 f.cm, .int .i64 f.n, .sli 5 (f.ks.map encF)]
theorem encF_eq (f : Fm) : encF f = celF f := by cases f; simp only [encF, celF, encFs_map, Fm.op, Fm.nm, Fm.cm, Fm.n, Fm.ks]
theorem encF_len (f : Fm) : (encF f).length = 5 := by rw [encF_eq]; rfl
def agF (f : Fm) : AV := .agg ((celF f).map .tv)
theorem agg_cell {σ : Facts} {ι : Where} {cs : List AV} {u : Value} (h : VR σ ι (.agg cs) u) (j : Nat) {c : AV} (hc : cs[j]? = some c) : ∃ x, VR σ ι c x := by
  cases h with
  | agg _ us hl hv =>
    have hj : j < us.length := by rw [hl]; exact (List.getElem?_eq_some_iff.1 hc).1
    exact ⟨us[j], hv j c us[j] hc (by simp [hj])⟩
theorem at_agF {E : En} {Q : Exit → St → Prop} {s : St} {c : Code} (t : Nat) {f : Fm} (ht : tget s.T t = agF f) (h : (f.ks.map encF).length ≤ 9223372036854775807 → AT E c Q s) : AT E c Q s :=
  at_fact _ (fun _ _ _ _ _ _ _ _ ⟨_, _, hs⟩ => by
    have := hs.tr t
    rw [ht] at this
    obtain ⟨x, hx⟩ := agg_cell (cs := (celF f).map .tv) this 4 rfl
    exact tr_len hx) h
theorem row_F (l : List Fm) (i : Int) (h : 0 ≤ i ∧ i < ((l.map encF).length : Int)) : rowAt (l.map encF) i = celF (l.getD i.toNat Fm.z) := by
  rw [row_enc encF l i Fm.z h, encF_eq]
theorem getD_mem {α : Type} {l : List α} {i : Nat} {d : α} (h : i < l.length) : l.getD i d ∈ l := by
  rw [List.getD_eq_getElem?_getD, List.getElem?_eq_getElem h]; exact List.getElem_mem h
theorem take_snoc1 {α : Type} (l : List α) (x : Nat) (d : α) (h : x < l.length) : l.take (x + 1) = l.take x ++ [l.getD x d] := by
  rw [List.take_add_one, List.getD_eq_getElem?_getD, List.getElem?_eq_getElem h]; rfl
theorem drop_get {α : Type} (l : List α) (x : Nat) (d : α) (h : x < l.length) : l.drop x = l.getD x d :: l.drop (x + 1) := by
  rw [List.drop_eq_getElem_cons h, List.getD_eq_getElem?_getD, List.getElem?_eq_getElem h]; rfl
theorem getD_drop {α : Type} (l : List α) (i : Nat) (d : α) : (l.drop i).getD 0 d = l.getD i d := by
  simp [List.getD_eq_getElem?_getD, List.getElem?_drop]
/-- Spans. -/
structure Sn where
  a : Int
  b : Int
  f : Fm
def Sn.z : Sn := ⟨0, 0, Fm.z⟩
def celS (s : Sn) : List TV := [.int .i64 s.a, .int .i64 s.b, .int .i64 s.f.op, .str s.f.nm, .int .i64 s.f.cm, .int .i64 s.f.n, .sli 5 (s.f.ks.map encF)]
def agS (s : Sn) : AV := .agg ((celS s).map .tv)
theorem row_S (l : List Sn) (i : Int) (h : 0 ≤ i ∧ i < ((l.map celS).length : Int)) : rowAt (l.map celS) i = celS (l.getD i.toNat Sn.z) := row_enc celS l i _ h
/-- Rulings. -/
structure Ru where
  id : ByteArray
  tg : ByteArray
  kd : Int
  a : Int
  b : Int
  f : Fm
  kn : Int
  fin : Bool
  lf : ByteArray
def Ru.z : Ru := ⟨ByteArray.empty, ByteArray.empty, 0, 0, 0, Fm.z, 0, false, ByteArray.empty⟩
def celR (r : Ru) : List TV := [.str r.id, .str r.tg, .int .i64 r.kd, .int .i64 r.a, .int .i64 r.b, .int .i64 r.f.op, .str r.f.nm, .int .i64 r.f.cm, .int .i64 r.f.n, .sli 5 (r.f.ks.map encF), .int .i64 r.kn, .bool r.fin, .str r.lf]
def agR (r : Ru) : AV := .agg ((celR r).map .tv)
theorem row_R (l : List Ru) (i : Int) (h : 0 ≤ i ∧ i < ((l.map celR).length : Int)) : rowAt (l.map celR) i = celR (l.getD i.toNat Ru.z) := row_enc celR l i _ h
end Go.Proofs.Ythmimpiegnnmdaa
