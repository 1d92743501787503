/- Part M2 of the proof. -/
import Derived.KernelRfl
import Derived.ProofKit
import Derived.OpenShut
import Derived.SizedLaws
import Derived.Test.YtphmhelkojdlaaaDoorM1
namespace Go.Proofs.YtphmhelkojdlaaaDoor
open Go.RowKit
set_option linter.unusedSimpArgs false
set_option linter.unusedVariables false
def usesH : Op → Bool
 | .load .. | .store .. | .lookup .. | .mapUpdate .. | .call _ => true
 | _ => false
def wrs (e : Eff) (id : Id) : List Id := match e with
 | .no => []
 | .new _ => [id]
 | .upd i _ => [i]
 | .repl i _ => [i, id]
def clr : List Id → Hp → Prop
 | [], _ => True
 | x :: r, H => hget H x = none ∧ clr r H
def notIn (x : Id) : List Id → Prop
 | [] => True
 | y :: r => (y = x) = False ∧ notIn x r
/-- The heap behind those of the effects that the mask names. -/
def hovL (p : Id) (n0 m : Nat) : Hp → List (Nat × Eff) → Hp
 | H, [] => H
 | H, (j, e) :: r => hovL p n0 m (bif m.testBit j then e.app H ((n0 + j) :: p) else H) r
def hovA (p : Id) (n0 : Nat) : Hp → List (Nat × Eff) → Hp
 | H, [] => H
 | H, (j, e) :: r => hovA p n0 (e.app H ((n0 + j) :: p)) r
def clrE (p : Id) (n0 m : Nat) (id : Id) (H : Hp) : List (Nat × Eff) → Prop
 | [] => True
 | (j, e) :: r => (bif m.testBit j then True else clr (wrs e ((n0 + j) :: p)) H) ∧ notIn id (wrs e ((n0 + j) :: p)) ∧ clrE p n0 m id H r
def clrU (m : Nat) (xs : List Id) : List (Nat × Hp) → Prop
 | [] => True
 | (j, H) :: r => (bif m.testBit j then True else clr xs H) ∧ clrU m xs r
def oldIn (e : Eff) (H : Hp) : Prop := match e with
 | .upd i _ => (hget H i).isSome = true
 | .repl i _ => (hget H i).isSome = true
 | _ => True
def eadd (k : Nat) (e : Eff) (E : List (Nat × Eff)) : List (Nat × Eff) := match e with
 | .no => E
 | e => E ++ [(k, e)]
/-- The one slice of one's own among the arguments, read as a tree. -/
def frz1 (H : Hp) : List AV → Option (List AV × Id × AO)
 | [] => none
 | .sl i sz off len :: r => match hget H i with
  | some (.row cells _) => match tvs cells with
   | some ts => if off = 0 ∧ ts.length = len * sz ∧ 0 < sz then some (.tv (.sli sz (chunk sz len ts)) :: r, i, .row cells true) else none
   | none => none
  | _ => none
 | v :: r => match frz1 H r with
  | some (r', i, o) => some (v :: r', i, o)
  | none => none
def evdR (P : Program) (H : Hp) (K : AV → Eff → Prop) : Res → Prop
 | .val v e => K v e
 | .need c r => c ∧ evdR P H K r
 | .call f args => (∃ v, StabCall P f args H v ∧ K v .no) ∨ (∃ args' i o v, frz1 H args = some (args', i, o) ∧ PureCall P f args' v ∧ K v (.upd i o))
 | _ => False
/-- The blocks that an operation is shown, if they are named. -/
def rst (r : Option (List Id)) (H : Hp) : Hp := match r with
 | none => H
 | some l => H.filter fun x => l.any fun i => decide (i = x.1)
theorem rst_sub (r : Option (List Id)) (H : Hp) : ∀ id o, hget (rst r H) id = some o → hget H id = some o := by
 cases r with
 | none => exact fun _ _ h => h
 | some l =>
  induction H with
  | nil => intro id o h; cases h
  | cons x rr ih =>
   intro id o h
   obtain ⟨i, o'⟩ := x
   simp only [rst, List.filter_cons] at h
   simp only [hget]
   cases hb : (l.any fun k => decide (k = i)) with
   | true =>
    rw [hb] at h
    simp only [if_true, hget] at h
    split at h
    ·rename_i e; rw [if_pos e]; exact h
    ·rename_i e; rw [if_neg e]; exact ih id o h
   | false =>
    rw [hb] at h
    simp only [Bool.false_eq_true, if_false] at h
    have h2 := ih id o h
    by_cases e : i = id
    ·subst e
     exfalso
     have key : ∀ (Hx : Hp), hget (Hx.filter fun x => l.any fun i => decide (i = x.1)) i = none := by
      intro Hx
      induction Hx with
      | nil => rfl
      | cons y ry ihy =>
       obtain ⟨a, b⟩ := y
       rw [List.filter_cons]
       split
       ·rename_i hy
        simp only [hget]
        rw [if_neg]
        ·exact ihy
        ·intro e; subst e; rw [hb] at hy; cases hy
       ·exact ihy
     have h3 := key rr
     have h4 : hget (List.filter (fun x => l.any fun i => decide (i = x.1)) rr) i = some o := h
     rw [h3] at h4; cases h4
    ·rw [if_neg e]; exact h2
def evd (P : Program) (p : Id) (n0 : Nat) (rs : List (Option (List Id))) (H0 : Hp) : List SOp → List Nat → Nat → Tm → List (Nat × Eff) → List (Nat × Hp) → (Tm → Hp → Nat → Prop) → Prop
 | [], _, k, T, E, _, K => K T (hovA p n0 H0 E) (n0 + k)
 | _ :: _, [], _, _, _, _, _ => False
 | ⟨d, op, none⟩ :: os, m :: ms, k, T, E, U, K =>
  clrE p n0 m ((n0 + k) :: p) (bif usesH op then rst (rs.getD k none) (hovL p n0 m H0 E) else []) E ∧
  evdR P (bif usesH op then rst (rs.getD k none) (hovL p n0 m H0 E) else []) (fun v e => oldIn e (bif usesH op then rst (rs.getD k none) (hovL p n0 m H0 E) else []) ∧ clrU m (wrs e ((n0 + k) :: p)) U ∧ evd P p n0 rs H0 os ms (k + 1) (tset d v T) (eadd k e E) (bif usesH op then U ++ [(k, rst (rs.getD k none) (hovL p n0 m H0 E))] else U) K)
   (evOp P T (bif usesH op then rst (rs.getD k none) (hovL p n0 m H0 E) else []) ((n0 + k) :: p) op)
 | ⟨d, op, some (t, b)⟩ :: os, m :: ms, k, T, E, U, K => match tget T t with
  | .tv (.bool c) =>
   (c = b → clrE p n0 m ((n0 + k) :: p) (bif usesH op then rst (rs.getD k none) (hovL p n0 m H0 E) else []) E ∧
    evdR P (bif usesH op then rst (rs.getD k none) (hovL p n0 m H0 E) else []) (fun v e => oldIn e (bif usesH op then rst (rs.getD k none) (hovL p n0 m H0 E) else []) ∧ clrU m (wrs e ((n0 + k) :: p)) U ∧ evd P p n0 rs H0 os ms (k + 1) (tset d v T) (eadd k e E) (bif usesH op then U ++ [(k, rst (rs.getD k none) (hovL p n0 m H0 E))] else U) K)
     (evOp P T (bif usesH op then rst (rs.getD k none) (hovL p n0 m H0 E) else []) ((n0 + k) :: p) op)) ∧
   (c = !b → evd P p n0 rs H0 os ms (k + 1) (tset d (.tup []) T) E U K)
  | .tup [] => evd P p n0 rs H0 os ms (k + 1) (tset d (.tup []) T) E U K
  | _ => False

/-! ### What the evaluation tells, as lists -/
def opTmps (op : Op) : List Nat := op.operands.toList.filterMap fun | .tmp t => some t | _ => none
def gTmps (g : Option (Nat × Bool)) : List Nat := match g with
 | some (t, _) => [t]
 | none => []
/-- The masks follow from the edges; what is read or written twice is ordered. -/
def drawOk (ops : Array Oper) (os : List SOp) (ms : List Nat) : Bool :=
 (List.range ops.size).all (fun k => (ops[k]?).all fun o => o.after.all fun e => !Region.binds .any e || decide (e.on < k)) &&
 (List.range ops.size).all (fun k => (List.range k).all fun j => !(ms.getD k 0).testBit j || ((ops[k]?).any fun o => o.after.any fun e => Region.binds .any e && (e.on == j || (ms.getD e.on 0).testBit j))) &&
 (List.range ops.size).all (fun k => (ms.getD k 0) < 2 ^ k) &&
 (List.range ops.size).all (fun k => (List.range ops.size).all fun j => j == k ||
  match (os[j]?).bind (·.dst) with
  | some t => !((os[k]?).any fun o => (opTmps o.op).contains t || (gTmps o.g).contains t || o.dst == some t) || (if j < k then (ms.getD k 0).testBit j else (ms.getD j 0).testBit k)
  | none => true)
structure PStep where
 so : SOp
 v : AV
 e : Eff
 ran : Bool
def tov (L : Nat → Bool) : Nat → List PStep → Tm → Tm
 | _, [], T => T
 | k, x :: r, T => tov L (k + 1) r (bif L k then tset x.so.dst x.v T else T)
def hov (p : Id) (n0 : Nat) (L : Nat → Bool) : Nat → List PStep → Hp → Hp
 | _, [], H => H
 | k, x :: r, H => hov p n0 L (k + 1) r (bif L k then x.e.app H ((n0 + k) :: p) else H)
def allL : Nat → Bool := fun _ => true
def heapAt (p : Id) (n0 : Nat) (rs : List (Option (List Id))) (H0 : Hp) (m : Nat) (op : Op) (pre : List PStep) : Hp := bif usesH op then rst (rs.getD pre.length none) (hov p n0 (fun j => m.testBit j) 0 pre H0) else []
/-- An operation's result, one of those that it may have. -/
def ResTo (P : Program) (H : Hp) (v : AV) (e : Eff) : Res → Prop
 | .val v' e' => v' = v ∧ e' = e
 | .need c r => c ∧ ResTo P H v e r
 | .call f args => (StabCall P f args H v ∧ e = .no) ∨ (∃ args' i o, frz1 H args = some (args', i, o) ∧ PureCall P f args' v ∧ e = .upd i o)
 | _ => False
def PFact (P : Program) (p : Id) (n0 : Nat) (rs : List (Option (List Id))) (H0 : Hp) (T0 : Tm) (ms : List Nat) (pl : List PStep) (k : Nat) (x : PStep) : Prop :=
 let m := ms.getD k 0
 let pre := pl.take k
 let T := tov allL 0 pre T0
 let H := heapAt p n0 rs H0 m x.so.op pre
 let run := ResTo P H x.v x.e (evOp P T H ((n0 + k) :: p) x.so.op) ∧ oldIn x.e H ∧
  (∀ j y, pre[j]? = some y → m.testBit j = false → ∀ z ∈ wrs y.e ((n0 + j) :: p), hget H z = none) ∧ (∀ j y, pre[j]? = some y → (n0 + k) :: p ∉ wrs y.e ((n0 + j) :: p)) ∧
  (∀ j y, pre[j]? = some y → m.testBit j = false → y.ran = true → usesH y.so.op = true → ∀ z ∈ wrs x.e ((n0 + k) :: p), hget (heapAt p n0 rs H0 (ms.getD j 0) y.so.op (pl.take j)) z = none)
 match x.so.g with
 | none => x.ran = true ∧ run
 | some (t, b) => (tget T t = .tv (.bool b) ∧ x.ran = true ∧ run) ∨ ((tget T t = .tv (.bool !b) ∨ tget T t = .tup []) ∧ x.ran = false ∧ x.v = .tup [] ∧ x.e = .no)
theorem clr_spec {xs : List Id} {H : Hp} (h : clr xs H) : ∀ z ∈ xs, hget H z = none := by
 induction xs with
 | nil => intro z hz; simp at hz
 | cons x r ih =>
  intro z hz
  simp at hz
  rcases hz with rfl | hz
  ·exact h.1
  ·exact ih h.2 z hz
theorem notIn_spec {x : Id} {xs : List Id} (h : notIn x xs) : x ∉ xs := by
 induction xs with
 | nil => simp
 | cons y r ih =>
  simp only [List.mem_cons, not_or]
  exact ⟨fun e => by have := h.1; rw [this.symm]; exact e.symm, ih h.2⟩
theorem evdR_to {P : Program} {H : Hp} {K : AV → Eff → Prop} {r : Res} (h : evdR P H K r) : ∃ v e, ResTo P H v e r ∧ K v e := by
 induction r with
 | val v e => exact ⟨v, e, ⟨rfl, rfl⟩, h⟩
 | need c r ih => obtain ⟨v, e, h1, h2⟩ := ih h.2; exact ⟨v, e, ⟨h.1, h1⟩, h2⟩
 | call f args =>
  rcases h with ⟨v, h1, h2⟩ | ⟨args', i, o, v, h1, h2, h3⟩
  ·exact ⟨v, .no, .inl ⟨h1, rfl⟩, h2⟩
  ·exact ⟨v, .upd i o, .inr ⟨args', i, o, h1, h2, rfl⟩, h3⟩
 | yld i args => exact h.elim
 | fail => exact h.elim
/-- The effects that are no idle ones, with their places. -/
def effs : Nat → List PStep → List (Nat × Eff)
 | _, [] => []
 | k, x :: r => match x.e with
  | .no => effs (k + 1) r
  | e => (k, e) :: effs (k + 1) r
theorem effs_append (k : Nat) (pl : List PStep) (x : PStep) : effs k (pl ++ [x]) = eadd (k + pl.length) x.e (effs k pl) := by
 induction pl generalizing k with
 | nil => cases hx : x.e <;> simp [effs, eadd, hx]
 | cons y r ih =>
  simp only [List.cons_append, effs]
  have hl : k + (y :: r).length = k + 1 + r.length := by simp; omega
  cases hy : y.e with
  | no => simp only [ih, hl]
  | _ => simp only [ih, hl]; cases x.e <;> rfl
theorem hovL_eq (p : Id) (n0 m : Nat) : ∀ (pl : List PStep) (k : Nat) (H : Hp), hovL p n0 m H (effs k pl) = hov p n0 (fun j => m.testBit j) k pl H := by
 intro pl
 induction pl with
 | nil => intro k H; rfl
 | cons x r ih =>
  intro k H
  simp only [effs, hov]
  cases hx : x.e with
  | no => simp only [ih, Eff.app]; cases m.testBit k <;> rfl
  | _ => simp only [hovL, ih]
theorem hovA_eq (p : Id) (n0 : Nat) : ∀ (pl : List PStep) (k : Nat) (H : Hp), hovA p n0 H (effs k pl) = hov p n0 allL k pl H := by
 intro pl
 induction pl with
 | nil => intro k H; rfl
 | cons x r ih =>
  intro k H
  simp only [effs, hov]
  cases hx : x.e with
  | no => simp only [ih, Eff.app, allL, cond_true]
  | _ => simp only [hovA, ih, allL, cond_true]
theorem clrE_spec {p : Id} {n0 m : Nat} {id : Id} {H : Hp} : ∀ (pl : List PStep) (k : Nat), clrE p n0 m id H (effs k pl) →
  ∀ j y, pl[j]? = some y → (m.testBit (k + j) = false → ∀ z ∈ wrs y.e ((n0 + (k + j)) :: p), hget H z = none) ∧ id ∉ wrs y.e ((n0 + (k + j)) :: p) := by
 intro pl
 induction pl with
 | nil => intro k _ j y hj; simp at hj
 | cons x r ih =>
  intro k h j y hj
  simp only [effs] at h
  have hrest : clrE p n0 m id H (effs (k + 1) r) := by
   cases hx : x.e with
   | no => rw [hx] at h; exact h
   | _ => rw [hx] at h; exact h.2.2
  cases j with
  | zero =>
   simp at hj; subst hj
   simp only [Nat.add_zero]
   cases hx : x.e with
   | no => exact ⟨fun _ z hz => by simp [wrs] at hz, by simp [wrs]⟩
   | _ =>
    rw [hx] at h
    exact ⟨fun hb => by have := h.1; rw [hb] at this; exact clr_spec this, notIn_spec h.2.1⟩
  | succ j =>
   simp at hj
   have := ih (k + 1) hrest j y hj
   have e1 : k + 1 + j = k + (j + 1) := by omega
   rw [e1] at this; exact this
theorem tov_append (L : Nat → Bool) : ∀ (pl : List PStep) (k : Nat) (x : PStep) (T : Tm), tov L k (pl ++ [x]) T = bif L (k + pl.length) then tset x.so.dst x.v (tov L k pl T) else tov L k pl T := by
 intro pl
 induction pl with
 | nil => intro k x T; simp [tov]
 | cons y r ih =>
  intro k x T
  simp only [List.cons_append, tov, ih]
  have : k + 1 + r.length = k + (y :: r).length := by simp; omega
  rw [this]
theorem clrU_spec {m : Nat} {xs : List Id} {U : List (Nat × Hp)} (h : clrU m xs U) : ∀ x ∈ U, m.testBit x.1 = false → ∀ z ∈ xs, hget x.2 z = none := by
 induction U with
 | nil => intro x hx; simp at hx
 | cons y r ih =>
  intro x hx hb
  simp at hx
  rcases hx with rfl | hx
  ·have := h.1; rw [hb] at this; exact clr_spec this
  ·exact ih h.2 x hx hb
theorem take_snoc_get {α : Type} (pl : List α) (x : α) {j : Nat} (hj : j ≤ pl.length) : (pl ++ [x]).take j = pl.take j := by
 rw [List.take_append_of_le_length hj]
/-- Out of the evaluation: the plan. -/
theorem evd_plan {P : Program} {p : Id} {n0 : Nat} {rs : List (Option (List Id))} {H0 : Hp} {T0 : Tm} (ms : List Nat) {K : Tm → Hp → Nat → Prop} : ∀ (os : List SOp) (pl : List PStep) (U : List (Nat × Hp)),
  (∀ k x, pl[k]? = some x → PFact P p n0 rs H0 T0 ms pl k x) →
  (∀ j y, pl[j]? = some y → y.ran = true → usesH y.so.op = true → (j, heapAt p n0 rs H0 (ms.getD j 0) y.so.op (pl.take j)) ∈ U) →
  evd P p n0 rs H0 os (ms.drop pl.length) pl.length (tov allL 0 pl T0) (effs 0 pl) U K →
  ∃ pl', pl'.map (·.so) = pl.map (·.so) ++ os ∧ (∀ k x, pl'[k]? = some x → PFact P p n0 rs H0 T0 ms pl' k x) ∧ K (tov allL 0 pl' T0) (hov p n0 allL 0 pl' H0) (n0 + pl'.length) := by
 intro os
 induction os with
 | nil =>
  intro pl U hf hU h
  refine ⟨pl, by simp, hf, ?_⟩
  simp only [evd, hovA_eq] at h
  exact h
 | cons so os ih =>
  intro pl U hf hU h
  cases hms : ms.drop pl.length with
  | nil => rw [hms] at h; cases so with | mk d op g => cases g <;> simp [evd] at h
  | cons m ms' =>
   have hm : ms.getD pl.length 0 = m := by
    have h1 : ms[pl.length]? = some m := by
     have := congrArg (fun l => l[0]?) hms
     simpa using this
    simp [List.getD, h1]
   have hms' : ms.drop (pl.length + 1) = ms' := by
    rw [← List.drop_drop, hms]; rfl
   rw [hms] at h
   -- one more step of the plan
   have go : ∀ (x : PStep) (U' : List (Nat × Hp)), x.so = so → PFact P p n0 rs H0 T0 ms (pl ++ [x]) pl.length x → (∀ y ∈ U, y ∈ U') → (x.ran = true → usesH x.so.op = true → (pl.length, heapAt p n0 rs H0 m x.so.op pl) ∈ U') →
     evd P p n0 rs H0 os ms' (pl.length + 1) (tset x.so.dst x.v (tov allL 0 pl T0)) (eadd pl.length x.e (effs 0 pl)) U' K →
     ∃ pl', pl'.map (·.so) = pl.map (·.so) ++ so :: os ∧ (∀ k x, pl'[k]? = some x → PFact P p n0 rs H0 T0 ms pl' k x) ∧ K (tov allL 0 pl' T0) (hov p n0 allL 0 pl' H0) (n0 + pl'.length) := by
    intro x U' hso hx hUU hU' hev
    have hlen : (pl ++ [x]).length = pl.length + 1 := by simp
    refine (fun hh => ?_) (ih (pl ++ [x]) U' ?_ ?_ ?_)
    ·obtain ⟨pl', h1, h2, h3⟩ := hh
     refine ⟨pl', ?_, h2, h3⟩
     rw [h1, List.map_append, List.append_assoc]
     simp [hso]
    ·intro k y hk
     by_cases hkl : k < pl.length
     ·rw [List.getElem?_append_left hkl] at hk
      have hfk := hf k y hk
      have e1 : (pl ++ [x]).take k = pl.take k := take_snoc_get pl x (by omega)
      have e2 : ∀ j z, (pl.take k)[j]? = some z → (pl ++ [x]).take j = pl.take j := fun j z hz => by
       have := (List.getElem?_eq_some_iff.1 hz).1
       simp at this
       exact take_snoc_get pl x (by omega)
      unfold PFact at hfk ⊢
      simp only [e1] at hfk ⊢
      split
      ·rename_i hg
       rw [hg] at hfk
       obtain ⟨a1, a2, a3, a4, a5, a6⟩ := hfk
       exact ⟨a1, a2, a3, a4, a5, fun j z hz => by rw [e2 j z hz]; exact a6 j z hz⟩
      ·rename_i t b hg
       rw [hg] at hfk
       rcases hfk with ⟨c1, a1, a2, a3, a4, a5, a6⟩ | hfk
       ·exact .inl ⟨c1, a1, a2, a3, a4, a5, fun j z hz => by rw [e2 j z hz]; exact a6 j z hz⟩
       ·exact .inr hfk
     ·have hke : k = pl.length := by
       have := (List.getElem?_eq_some_iff.1 hk).1
       simp at this; omega
      subst hke
      simp at hk; subst hk
      exact hx
    ·intro j y hj hr hu
     by_cases hjl : j < pl.length
     ·rw [List.getElem?_append_left hjl] at hj
      rw [take_snoc_get pl x (by omega)]
      exact hUU _ (hU j y hj hr hu)
     ·have hje : j = pl.length := by
       have := (List.getElem?_eq_some_iff.1 hj).1
       simp at this; omega
      subst hje
      simp at hj; subst hj
      rw [hm, take_snoc_get pl x (Nat.le_refl _), List.take_length]
      exact hU' hr hu
    ·rw [hlen, hms', tov_append, effs_append]
     simp only [Nat.zero_add, allL, cond_true]
     exact hev
   have hheap : ∀ op, (bif usesH op then rst (rs.getD pl.length none) (hovL p n0 m H0 (effs 0 pl)) else []) = heapAt p n0 rs H0 m op pl := by
    intro op
    unfold heapAt
    rw [hovL_eq]
   obtain ⟨d, op, g⟩ := so
   -- the operation is carried out
   have runs : ∀ (hg : ∀ x : PStep, x.so = ⟨d, op, g⟩ → x.ran = true → ResTo P (heapAt p n0 rs H0 m op pl) x.v x.e (evOp P (tov allL 0 pl T0) (heapAt p n0 rs H0 m op pl) ((n0 + pl.length) :: p) op) → oldIn x.e (heapAt p n0 rs H0 m op pl) →
      (∀ j y, pl[j]? = some y → m.testBit j = false → ∀ z ∈ wrs y.e ((n0 + j) :: p), hget (heapAt p n0 rs H0 m op pl) z = none) → (∀ j y, pl[j]? = some y → (n0 + pl.length) :: p ∉ wrs y.e ((n0 + j) :: p)) →
      (∀ j y, pl[j]? = some y → m.testBit j = false → y.ran = true → usesH y.so.op = true → ∀ z ∈ wrs x.e ((n0 + pl.length) :: p), hget (heapAt p n0 rs H0 (ms.getD j 0) y.so.op (pl.take j)) z = none) → PFact P p n0 rs H0 T0 ms (pl ++ [x]) pl.length x),
     clrE p n0 m ((n0 + pl.length) :: p) (bif usesH op then rst (rs.getD pl.length none) (hovL p n0 m H0 (effs 0 pl)) else []) (effs 0 pl) →
     evdR P (bif usesH op then rst (rs.getD pl.length none) (hovL p n0 m H0 (effs 0 pl)) else []) (fun v e => oldIn e (bif usesH op then rst (rs.getD pl.length none) (hovL p n0 m H0 (effs 0 pl)) else []) ∧ clrU m (wrs e ((n0 + pl.length) :: p)) U ∧ evd P p n0 rs H0 os ms' (pl.length + 1) (tset d v (tov allL 0 pl T0)) (eadd pl.length e (effs 0 pl)) (bif usesH op then U ++ [(pl.length, rst (rs.getD pl.length none) (hovL p n0 m H0 (effs 0 pl)))] else U) K)
      (evOp P (tov allL 0 pl T0) (bif usesH op then rst (rs.getD pl.length none) (hovL p n0 m H0 (effs 0 pl)) else []) ((n0 + pl.length) :: p) op) →
     ∃ pl', pl'.map (·.so) = pl.map (·.so) ++ ⟨d, op, g⟩ :: os ∧ (∀ k x, pl'[k]? = some x → PFact P p n0 rs H0 T0 ms pl' k x) ∧ K (tov allL 0 pl' T0) (hov p n0 allL 0 pl' H0) (n0 + pl'.length) := by
    intro hg hE hR
    rw [hheap] at hE hR
    obtain ⟨v, e, hres, hold, hcu, hev⟩ := evdR_to hR
    have hE' := clrE_spec pl 0 hE
    simp only [Nat.zero_add] at hE'
    refine go ⟨⟨d, op, g⟩, v, e, true⟩ _ rfl (hg _ rfl rfl hres hold (fun j y hj hb => (hE' j y hj).1 hb) (fun j y hj => (hE' j y hj).2) (fun j y hj hb hr hu => ?_)) ?_ ?_ hev
    ·exact clrU_spec hcu _ (hU j y hj hr hu) hb
    ·intro y hy
     cases usesH op with
     | true => simp [hy]
     | false => exact hy
    ·intro _ hu
     have hu' : usesH op = true := hu
     rw [hu']
     simp only [cond_true, List.mem_append, List.mem_singleton]
     right
     have := hheap op
     rw [hu'] at this
     simp only [cond_true] at this
     rw [this]
   cases g with
   | none =>
    simp only [evd] at h
    refine runs ?_ h.1 h.2
    intro x hso hr h1 h2 h3 h4 h5
    have e1 : (pl ++ [x]).take pl.length = pl := by rw [take_snoc_get pl x (Nat.le_refl _), List.take_length]
    unfold PFact
    simp only [hso, e1, hm]
    exact ⟨hr, h1, h2, h3, h4, fun j y hj => by
     have := (List.getElem?_eq_some_iff.1 hj).1
     rw [take_snoc_get pl x (by omega)]; exact h5 j y hj⟩
   | some tb =>
    obtain ⟨t, b⟩ := tb
    simp only [evd] at h
    split at h
    ·rename_i c hc
     by_cases hcb : c = b
     ·obtain ⟨hE, hR⟩ := h.1 hcb
      refine runs ?_ hE hR
      intro x hso hr h1 h2 h3 h4 h5
      have e1 : (pl ++ [x]).take pl.length = pl := by rw [take_snoc_get pl x (Nat.le_refl _), List.take_length]
      unfold PFact
      simp only [hso, e1, hm]
      exact .inl ⟨by rw [hc, hcb], hr, h1, h2, h3, h4, fun j y hj => by
       have := (List.getElem?_eq_some_iff.1 hj).1
       rw [take_snoc_get pl x (by omega)]; exact h5 j y hj⟩
     ·have hcb' : c = !b := by cases c <;> cases b <;> simp_all
      refine go ⟨⟨d, op, some (t, b)⟩, .tup [], .no, false⟩ U rfl ?_ (fun y hy => hy) (fun hr => by cases hr) (h.2 hcb')
      have e1 : (pl ++ [(⟨⟨d, op, some (t, b)⟩, .tup [], .no, false⟩ : PStep)]).take pl.length = pl := by rw [take_snoc_get pl _ (Nat.le_refl _), List.take_length]
      unfold PFact
      simp only [e1]
      exact .inr ⟨.inl (by rw [hc, hcb']), by trivial⟩
    ·rename_i hc
     refine go ⟨⟨d, op, some (t, b)⟩, .tup [], .no, false⟩ U rfl ?_ (fun y hy => hy) (fun hr => by cases hr) h
     have e1 : (pl ++ [(⟨⟨d, op, some (t, b)⟩, .tup [], .no, false⟩ : PStep)]).take pl.length = pl := by rw [take_snoc_get pl _ (Nat.le_refl _), List.take_length]
     unfold PFact
     simp only [e1]
     exact .inr ⟨.inr hc, by trivial⟩
    ·exact h.elim
end Go.Proofs.YtphmhelkojdlaaaDoor
namespace Go.Proofs.YtphmhelkojdlaaaDoor
open Go.RowKit
set_option linter.unusedSimpArgs false
set_option linter.unusedVariables false
section
variable {X : Type}
def fz (act : Nat → PStep → X → X) (L : Nat → Bool) : Nat → List PStep → X → X
 | _, [], x => x
 | k, y :: r, x => fz act L (k + 1) r (bif L k then act k y x else x)
variable {act : Nat → PStep → X → X} {L L' : Nat → Bool}
theorem fz_congr : ∀ (pl : List PStep) (k : Nat) (x : X), (∀ j y, pl[j]? = some y → L (k + j) ≠ L' (k + j) → ∀ x, act (k + j) y x = x) → fz act L k pl x = fz act L' k pl x := by
 intro pl
 induction pl with
 | nil => intro k x _; rfl
 | cons y r ih =>
  intro k x h
  simp only [fz]
  have e : (bif L k then act k y x else x) = (bif L' k then act k y x else x) := by
   by_cases e : L k = L' k
   ·rw [e]
   ·have h0 := h 0 y rfl (by simpa using e) x
    simp only [Nat.add_zero] at h0
    rw [h0]
    cases L k <;> cases L' k <;> rfl
  rw [e]
  exact ih (k + 1) _ fun j z hz hl x => by
   have e1 : k + 1 + j = k + (j + 1) := by omega
   rw [e1] at hl ⊢
   exact h (j + 1) z (by simpa using hz) hl x
theorem fz_out (pl : List PStep) (k : Nat) (x : X) (h : ∀ j y, pl[j]? = some y → L (k + j) = true → ∀ x, act (k + j) y x = x) : fz act L k pl x = x := by
 have h1 : fz act L k pl x = fz act (fun _ => false) k pl x := fz_congr pl k x fun j y hy hl => h j y hy (by revert hl; cases L (k + j) <;> simp)
 rw [h1]
 clear h1 h
 induction pl generalizing k x with
 | nil => rfl
 | cons y r ih => exact ih (k + 1) x
theorem fz_take (m : Nat) : ∀ (pl : List PStep) (k : Nat) (x : X), fz act L k (pl.take m) x = fz act (fun j => L j && decide (j < k + m)) k pl x := by
 induction m with
 | zero =>
  intro pl k x
  rw [List.take_zero]
  symm
  refine fz_out _ _ _ fun j y _ h => ?_
  simp at h; omega
 | succ m ih =>
  intro pl k x
  cases pl with
  | nil => rfl
  | cons y r =>
   simp only [List.take_succ_cons, fz]
   rw [ih]
   have e1 : decide (k < k + (m + 1)) = true := by simp
   rw [e1, Bool.and_true]
   refine fz_congr _ _ _ fun j y _ hl => absurd ?_ hl
   have : k + 1 + j < k + 1 + m ↔ k + 1 + j < k + (m + 1) := by omega
   simp only [this]
theorem fz_put : ∀ (pl : List PStep) (k i : Nat) (y : PStep) (x : X), pl[i]? = some y → L (k + i) = false → (∀ j, j ≠ k + i → L' j = L j) → L' (k + i) = true →
  ((∀ x, act (k + i) y x = x) ∨ (∀ j z, pl[j]? = some z → i < j → L (k + j) = true → ∀ x, act (k + j) z x = x)) → fz act L' k pl x = act (k + i) y (fz act L k pl x) := by
 intro pl
 induction pl with
 | nil => intro k i y x h; simp at h
 | cons z r ih =>
  intro k i y x hi hL hL' hLi hor
  cases i with
  | zero =>
   simp only [List.getElem?_cons_zero, Option.some.injEq] at hi
   subst hi
   simp only [Nat.add_zero] at hL hL' hLi hor ⊢
   simp only [fz, hL, hLi, cond_true, cond_false]
   have e1 : ∀ x, fz act L' (k + 1) r x = fz act L (k + 1) r x := fun x => fz_congr _ _ _ fun j y _ hl => absurd (hL' _ (by omega)) hl
   rw [e1]
   rcases hor with h | h
   ·rw [h, h]
   ·have h2 : ∀ x, fz act L (k + 1) r x = x := fun x => fz_out _ _ _ fun j y hy hl => by
     have e2 : k + 1 + j = k + (j + 1) := by omega
     rw [e2] at hl ⊢
     exact h (j + 1) y (by simpa using hy) (by omega) hl
    rw [h2, h2]
  | succ i =>
   have e1 : k + 1 + i = k + (i + 1) := by omega
   simp only [fz]
   rw [hL' k (by omega)]
   have := ih (k + 1) i y (bif L k then act k z x else x) (by simpa using hi) (by rw [e1]; exact hL) (by rw [e1]; exact hL') (by rw [e1]; exact hLi) (by
    rw [e1]
    rcases hor with h | h
    ·exact .inl h
    ·refine .inr fun j w hw hij hl => ?_
     have e2 : k + 1 + j = k + (j + 1) := by omega
     rw [e2] at hl ⊢
     exact h (j + 1) w (by simpa using hw) (by omega) hl)
   rw [e1] at this
   exact this
end
def tact (t : Nat) (_ : Nat) (y : PStep) (x : AV) : AV := if y.so.dst = some t then y.v else x
theorem tov_fz (L : Nat → Bool) (t : Nat) : ∀ (pl : List PStep) (k : Nat) (T : Tm), tget (tov L k pl T) t = fz (tact t) L k pl (tget T t) := by
 intro pl
 induction pl with
 | nil => intro k T; rfl
 | cons y r ih =>
  intro k T
  simp only [tov, fz, ih]
  congr 1
  cases L k with
  | false => rfl
  | true =>
   simp only [cond_true, tact, tset]
   cases hd : y.so.dst with
   | none => simp
   | some d =>
    simp only [tget, Option.some.injEq]
def hact (e : Eff) (id z : Id) (x : Option AO) : Option AO := match e with
 | .no => x
 | .new o => if id = z then some o else x
 | .upd i o => if i = z then x.map (fun _ => o) else x
 | .repl i o => if id = z then some o else if i = z then none else x
theorem hget_app (e : Eff) (H : Hp) (id z : Id) : hget (e.app H id) z = hact e id z (hget H z) := by
 cases e with
 | no => rfl
 | new o => simp only [Eff.app, hget, hact]
 | upd i o =>
  simp only [Eff.app, hact, hget_hset]
  by_cases h : i = z
  ·subst h; simp
  ·simp [h]
 | repl i o => simp only [Eff.app, hget, hact, hget_hdel]
theorem hact_out {e : Eff} {id z : Id} (h : z ∉ wrs e id) (x : Option AO) : hact e id z x = x := by
 cases e with
 | no => rfl
 | new o => simp [wrs] at h; simp [hact, Ne.symm h]
 | upd i o => simp [wrs] at h; simp [hact, Ne.symm h]
 | repl i o => simp [wrs] at h; simp [hact, Ne.symm h.1, Ne.symm h.2]
def gact (p : Id) (n0 : Nat) (z : Id) (j : Nat) (y : PStep) (x : Option AO) : Option AO := hact y.e ((n0 + j) :: p) z x
theorem hov_fz (p : Id) (n0 : Nat) (L : Nat → Bool) (z : Id) : ∀ (pl : List PStep) (k : Nat) (H : Hp), hget (hov p n0 L k pl H) z = fz (gact p n0 z) L k pl (hget H z) := by
 intro pl
 induction pl with
 | nil => intro k H; rfl
 | cons y r ih =>
  intro k H
  simp only [hov, fz, ih]
  congr 1
  cases L k with
  | false => rfl
  | true => simp only [cond_true, hget_app]; rfl

/-! ### An operation sees its operands, and of the heap what it asks for -/
theorem evOp_congr {P : Program} {T T' : Tm} {H : Hp} {id : Id} {op : Op} (h : ∀ t ∈ opTmps op, tget T t = tget T' t) : evOp P T H id op = evOp P T' H id op := by
 have hx : ∀ x, x ∈ op.operands → evo T x = evo T' x := by
  intro x hx
  cases x with
  | tmp t => exact h t (List.mem_filterMap.2 ⟨.tmp t, by simpa using hx, rfl⟩)
  | const v => rfl
  | func f => rfl
  | global g => rfl
 have hl : ∀ l : List Operand, (∀ x ∈ l, x ∈ op.operands) → l.map (evo T) = l.map (evo T') := fun l hl => List.map_congr_left fun x hm => hx x (hl x hm)
 cases op <;> simp only [evOp]
 case move x => rw [hx x (by simp [Op.operands])]
 case assign x => rw [hx x (by simp [Op.operands])]
 case pick c a b => rw [hx c (by simp [Op.operands]), hx a (by simp [Op.operands]), hx b (by simp [Op.operands])]
 case box t x => rw [hx x (by simp [Op.operands])]
 case build t parts =>
  have : (parts.toList.map fun p => (p.1, evo T p.2)) = parts.toList.map fun p => (p.1, evo T' p.2) := List.map_congr_left fun p hp => by rw [hx p.2 (by simp [Op.operands]; exact ⟨p.1, by simpa using hp⟩)]
  rw [this]
 case buildSlice t len parts =>
  have : (parts.toList.map fun p => (p.1, evo T p.2)) = parts.toList.map fun p => (p.1, evo T' p.2) := List.map_congr_left fun p hp => by rw [hx p.2 (by simp [Op.operands]; exact ⟨p.1, by simpa using hp⟩)]
  rw [this]
 case load t a => rw [hx a (by simp [Op.operands])]
 case store t a v => rw [hx a (by simp [Op.operands]), hx v (by simp [Op.operands])]
 case nilCheck x => rw [hx x (by simp [Op.operands])]
 case binOp o t x y k => rw [hx x (by simp [Op.operands]), hx y (by simp [Op.operands])]
 case unOp o t x => rw [hx x (by simp [Op.operands])]
 case makeInterface t x => rw [hx x (by simp [Op.operands])]
 case convert s d x => rw [hx x (by simp [Op.operands])]
 case makeFunc fn first cap => rw [hl cap.toList (by intro x hm; simp [Op.operands]; first | exact .inr (by simpa using hm) | exact (by simpa using hm))]
 case makeMap t n => cases n <;> rfl
 case slice t x lo hi m =>
  cases m with
  | some _ => rfl
  | none =>
   simp only
   rw [hx x (by simp [Op.operands])]
   congr 1
   ·cases lo with
    | none => rfl
    | some y => simp only [Option.map_some]; rw [hx y (by simp [Op.operands])]
   ·cases hi with
    | none => rfl
    | some y => simp only [Option.map_some]; rw [hx y (by simp [Op.operands])]
 case fieldAddr s x f => rw [hx x (by simp [Op.operands])]
 case field s x f => rw [hx x (by simp [Op.operands])]
 case indexAddr t x i => rw [hx x (by simp [Op.operands]), hx i (by simp [Op.operands])]
 case index t x i => rw [hx x (by simp [Op.operands]), hx i (by simp [Op.operands])]
 case lookup t m k c => rw [hx m (by simp [Op.operands]), hx k (by simp [Op.operands])]
 case mapUpdate t m k v => rw [hx m (by simp [Op.operands]), hx k (by simp [Op.operands]), hx v (by simp [Op.operands])]
 case extract x i => rw [hx x (by simp [Op.operands])]
 case call c =>
  have ha : ∀ x ∈ c.args.toList, x ∈ Op.operands (.call c) := by
   intro x hm
   simp [Op.operands, Call.operands]
   first | exact .inr (by simpa using hm) | exact .inl (by simpa using hm)
  unfold evCall
  split
  ·split
   ·rename_i x t e1 e2; rw [hx x (ha x (by rw [e1]; simp))]
   ·rfl
  ·split
   ·rename_i s x st xt e1 e2; rw [hx s (ha s (by rw [e1]; simp)), hx x (ha x (by rw [e1]; simp))]
   ·rfl
  ·split
   ·rename_i x y e1; rw [hx x (ha x (by rw [e1]; simp)), hx y (ha y (by rw [e1]; simp))]
   ·rfl
  ·split
   ·rename_i x y e1; rw [hx x (ha x (by rw [e1]; simp)), hx y (ha y (by rw [e1]; simp))]
   ·rfl
  ·rename_i f hf
   rw [hl c.args.toList ha, hx f (by simp [Op.operands, Call.operands, hf])]
  ·rfl

theorem frz1_mono {H H' : Hp} (hs : Sub H H') : ∀ {args args' : List AV} {i : Id} {o : AO}, frz1 H args = some (args', i, o) → frz1 H' args = some (args', i, o) := by
 intro args
 induction args with
 | nil => intro args' i o h; cases h
 | cons v r ih =>
  intro args' i o h
  cases v with
  | sl i' sz off len =>
   simp only [frz1] at h ⊢
   split at h
   ·rename_i cells ro hh
    rw [hs _ _ hh]
    exact h
   ·cases h
  | _ =>
   simp only [frz1] at h ⊢
   split at h
   ·rename_i r' i' o' hr
    rw [ih hr]
    exact h
   ·cases h
theorem ResTo.mono {P : Program} {H H' : Hp} (hs : Sub H H') {v : AV} {e : Eff} : ∀ {r : Res}, ResTo P H v e r → ResTo P H' v e r := by
 intro r
 induction r with
 | val v' e' => exact fun h => h
 | need c r ih => exact fun h => ⟨h.1, ih h.2⟩
 | call f args =>
  rintro (h | ⟨args', i, o, h1, h2, h3⟩)
  ·exact .inl ⟨h.1.mono hs, h.2⟩
  ·exact .inr ⟨args', i, o, frz1_mono hs h1, h2, h3⟩
 | yld i args => exact fun h => h
 | fail => exact fun h => h
/-- The result stays when the heap grows, or there was none. -/
theorem evLen_mono {P : Program} {H H' : Hp} (hs : Sub H H') {t : TypeId} {x : AV} : evLen P H t x = .fail ∨ evLen P H' t x = evLen P H t x := by
 unfold evLen
 split <;> try exact .inr rfl
 split
 ·rename_i h1 h2
  rw [hs _ _ h2]
  exact .inr (by simp [h1])
 ·exact .inl rfl
theorem evSrc_mono {P : Program} {H H' : Hp} (hs : Sub H H') {n : Nat} {e xt : TypeId} {x : AV} {r} (h : evSrc P H n e xt x = some r) : evSrc P H' n e xt x = some r := by
 unfold evSrc at h ⊢
 split at h
 ·exact h
 ·exact h
 ·exact h
 ·split at h
  ·rename_i hc
   rw [if_pos hc]
   split at h
   ·rename_i hh
    rw [hs _ _ hh]
    exact h
   ·cases h
  ·cases h
 ·cases h
theorem evAppend_mono {P : Program} {H H' : Hp} (hs : Sub H H') {id : Id} {st xt : TypeId} {sv x : AV} : evAppend P H id st xt sv x = .fail ∨ evAppend P H' id st xt sv x = evAppend P H id st xt sv x := by
 unfold evAppend
 split <;> try exact .inl rfl
 split <;> try exact .inl rfl
 split <;> try exact .inl rfl
 split <;> try exact .inl rfl
 cases hx : evSrc P H _ _ xt x with
 | none => exact .inl rfl
 | some r =>
  rw [evSrc_mono hs hx]
  obtain ⟨news, m⟩ := r
  simp only
  split <;> try exact .inr rfl
  split
  ·rename_i hh
   rw [hs _ _ hh]
   exact .inr rfl
  ·exact .inl rfl
theorem evOp_mono {P : Program} {T : Tm} {H H' : Hp} (hs : Sub H H') {id : Id} {op : Op} : evOp P T H id op = .fail ∨ evOp P T H' id op = evOp P T H id op := by
 cases op <;> (try exact .inr rfl) <;> simp only [evOp]
 case makeMap t n => cases n <;> exact .inr rfl
 case slice t x lo hi m => cases m <;> exact .inr rfl
 case load t a =>
  unfold evLoad
  split <;> try exact .inl rfl
  split <;> try exact .inr rfl
  split
  ·rename_i hh
   rw [hs _ _ hh]; exact .inr rfl
  ·exact .inl rfl
 case store t a v =>
  unfold evStore
  split <;> try exact .inl rfl
  split
  ·rename_i hh
   rw [hs _ _ hh]; exact .inr rfl
  ·exact .inl rfl
 case lookup t m k c =>
  unfold evLookup
  split <;> try exact .inl rfl
  split <;> try exact .inl rfl
  split <;> try exact .inl rfl
  split <;> try exact .inl rfl
  split
  ·rename_i hh
   rw [hs _ _ hh]; exact .inr rfl
  ·exact .inl rfl
 case mapUpdate t m k v =>
  unfold evMapUpdate
  split <;> try exact .inl rfl
  split <;> try exact .inl rfl
  split <;> try exact .inl rfl
  split
  ·rename_i hh
   rw [hs _ _ hh]; exact .inr rfl
  ·exact .inl rfl
 case call c =>
  unfold evCall
  split <;> try exact .inr rfl
  ·split
   ·exact evLen_mono hs
   ·exact .inr rfl
  ·split
   ·exact evAppend_mono hs
   ·exact .inr rfl

/-! ### The region -/
structure DInv (E : En) (B : Base) (w0 : World) (σ0 : Facts) (ι0 : Where) (q : Id) (ds : List Deferred) (p : Id) (n0 : Nat) (pl : List PStep) (T0 : Tm) (H0 : Hp) (L : Nat → Bool) (a : Act) (w : World) (σ : Facts) (ι : Where) : Prop where
 le : ∀ x y, σ0 x y → σ x y
 lei : ∀ j y, ι0 j = some y → ι j = some y
 out : ∀ j, ¬ q <:+ j → ι j = ι0 j
 wr : WR B w0 σ ι (hov p n0 L 0 pl H0) w
 tr : TRel σ ι (tov L 0 pl T0) a.tmps
 nt : a.tmps.size = E.nt
 qp : q <:+ p
 fr : ∀ j k, L k = false → ((n0 + k) :: p) <:+ j → ι j = none
 df : Dfs σ ι T0 ds a.defers
 nk : E.nt ≤ 1000000
theorem TRel.congr {σ : Facts} {ι : Where} {T T' : Tm} {tmps : Array Value} (h : TRel σ ι T tmps) (e : ∀ t, tget T' t = tget T t) : TRel σ ι T' tmps := fun t => by rw [e]; exact h t
/-- What one listed operation does, as the machine does it. -/
theorem step_res {E : En} {B : Base} {w0 w : World} {σ : Facts} {ι : Where} {H : Hp} {T : Tm} {id : Id} {a : Act} {o : Oper} {v : AV} {e : Eff} {next : Act → World → Prop} {Q : Exit → Act → World → Prop}
  (hw : WR B w0 σ ι H w) (hT : TRel σ ι T a.tmps) (hid : ∀ j, id <:+ j → ι j = none) (hok : operOk E.nt o = true) (hr : ResTo E.P H v e (evOp E.P T H id o.op))
  (hK : ∀ u w' σ' ι', VR σ' ι' v u → WR B w0 σ' ι' (e.app H id) w' → (∀ x y, σ x y → σ' x y) → (∀ j y, ι j = some y → ι' j = some y) → (∀ j, ¬ id <:+ j → ι' j = ι j) → next (a.put o.dst u) w') :
  o.wpIn E.F 0 E.P a w next Q := by
 have hok0 := hok
 simp only [operOk, Bool.and_eq_true] at hok
 obtain ⟨⟨hop, _⟩, hnd⟩ := hok
 have hsem : o.semAt E.F.round a.eval = execOp a.eval o := Oper.semAt_eq _ _ _ (fun c hc => by rw [hc] at hnd; simp [noDefer] at hnd)
 have hsat := evOp_sound (P := E.P) hw hT (hid _ (List.suffix_refl _)) hop
 refine ⟨fun _ _ => trivial, ?_⟩
 rw [hsem]
 generalize evOp E.P T H id o.op = r at hr hsat
 induction r with
 | val v' e' =>
  obtain ⟨rfl, rfl⟩ := hr
  obtain ⟨u, w', hrun, σ', ι', hv, hw', h1, h2, h3⟩ := hsat
  have := hK u w' σ' ι' hv hw' h1 h2 (fun j hj => h3 j (fun e => hj (by rw [e]; exact List.suffix_refl _)))
  rcases hrun with hrun | ⟨hrun, rfl⟩
  ·rw [hrun]; exact this
  ·rw [hrun]; exact this
 | need c r ih => exact ih hr.2 (hsat hr.1)
 | call f args =>
  obtain ⟨us, hrun, hus⟩ := hsat
  rw [hrun]
  refine ⟨fun h => (by simp [En.F, Fence.wide] at h), trivial, fun cs hroom => ?_⟩
  rcases hr with ⟨hp, rfl⟩ | ⟨args', i, ao, hf, hp, rfl⟩
  ·obtain ⟨e, w', fr, ⟨v1, u, H', σ', ι', rfl, ⟨rfl, rfl⟩, hv, hw', h1, h2, h3⟩, x⟩ := (hp H id (fun _ _ h => h) B w0 σ ι w us hw hid hus).2 cs (room_wide _)
   exact ⟨.returned u, w', fr, hK u w' σ' ι' hv hw' h1 h2 h3, x⟩
  ·have hfz : ∃ σ1, (∀ x y, σ x y → σ1 x y) ∧ WR B w0 σ1 ι (hset H i ao) w ∧ VRs σ1 ι args' us := by
    clear hrun hp
    induction args generalizing args' us with
    | nil => cases hf
    | cons v0 r ih =>
     obtain ⟨u0, us', rfl, hu, hus'⟩ := hus.cons_inv
     have hcase : (∃ sz off len, v0 = .sl i sz off len ∧ args'.tail = r ∧ ∃ v1, args' = v1 :: r ∧ frzV H v0 = some (v1, hset H i ao)) ∨ (∃ r', args' = v0 :: r' ∧ frz1 H r = some (r', i, ao)) := by
      cases v0 with
      | sl i' sz off len =>
       left
       simp only [frz1] at hf
       split at hf
       ·rename_i cells ro hh
        split at hf
        ·rename_i ts hts
         split at hf
         ·rename_i hc
          simp only [Option.some.injEq, Prod.mk.injEq] at hf
          obtain ⟨rfl, rfl, rfl⟩ := hf
          exact ⟨sz, off, len, rfl, rfl, _, rfl, by simp only [frzV, hh, hts, if_pos hc]⟩
         ·cases hf
        ·cases hf
       ·cases hf
      | _ =>
       right
       simp only [frz1] at hf
       split at hf
       ·rename_i r' i' o' hr
        simp only [Option.some.injEq, Prod.mk.injEq] at hf
        obtain ⟨rfl, rfl, rfl⟩ := hf
        exact ⟨r', rfl, hr⟩
       ·cases hf
     rcases hcase with ⟨sz, off, len, _, _, v1, rfl, hfv⟩ | ⟨r', rfl, hfr⟩
     ·obtain ⟨σ1, l1, hw1, hv1⟩ := frzV_ok hw hfv
      exact ⟨σ1, l1, hw1, VRs.cons (hv1 u0 hu) (hus'.mono l1 (fun _ _ h => h))⟩
     ·obtain ⟨σ1, l1, hw1, hv1⟩ := ih _ hus' _ hfr
      exact ⟨σ1, l1, hw1, VRs.cons (hu.mono l1 (fun _ _ h => h)) hv1⟩
   obtain ⟨σ1, l1, hw1, hus1⟩ := hfz
   obtain ⟨e, w', fr, ⟨v1, u, H', σ', ι', rfl, ⟨rfl, rfl⟩, hv, hw', h1, h2, h3⟩, x⟩ := (hp (hset H i ao) id B w0 σ1 ι w us hw1 hid hus1).2 cs (room_wide _)
   exact ⟨.returned u, w', fr, hK u w' σ' ι' hv hw' (fun x y h => h1 _ _ (l1 _ _ h)) h2 h3, x⟩
 | yld i args => exact hr.elim
 | fail => exact hr.elim
end Go.Proofs.YtphmhelkojdlaaaDoor
namespace Go.Proofs.YtphmhelkojdlaaaDoor
open Go.RowKit
set_option linter.unusedSimpArgs false
set_option linter.unusedVariables false
structure DOk (ops : Array Oper) (os : List SOp) (ms : List Nat) : Prop where
 d0 : ∀ (k : Nat) o, ops[k]? = some o → ∀ e ∈ o.after, Region.binds .any e = true → e.on < k
 d1 : ∀ (k : Nat) o, ops[k]? = some o → ∀ j, (ms.getD k 0).testBit j = true → ∃ e ∈ o.after, Region.binds .any e = true ∧ (e.on = j ∨ (ms.getD e.on 0).testBit j = true)
 d2 : ∀ k, k < ops.size → ∀ j, k ≤ j → (ms.getD k 0).testBit j = false
 d3 : ∀ (k j : Nat) (x y : SOp) t, k < ops.size → j < ops.size → j ≠ k → os[k]? = some x → os[j]? = some y → y.dst = some t → (t ∈ opTmps x.op ∨ t ∈ gTmps x.g ∨ x.dst = some t) →
  (j < k ∧ (ms.getD k 0).testBit j = true) ∨ (k < j ∧ (ms.getD j 0).testBit k = true)
theorem drawOk_spec {ops : Array Oper} {os : List SOp} {ms : List Nat} (h : drawOk ops os ms = true) : DOk ops os ms := by
 unfold drawOk at h
 rw [Bool.and_eq_true, Bool.and_eq_true, Bool.and_eq_true] at h
 obtain ⟨⟨⟨h0, h1⟩, h2⟩, h3⟩ := h
 rw [List.all_eq_true] at h0 h1 h2 h3
 have hd2 : ∀ k, k < ops.size → ∀ j, k ≤ j → (ms.getD k 0).testBit j = false := by
  intro k hk j hj
  have := h2 k (List.mem_range.2 hk)
  simp only [decide_eq_true_eq] at this
  exact Nat.testBit_lt_two_pow (Nat.lt_of_lt_of_le this (Nat.pow_le_pow_right (by omega) hj))
 refine ⟨?_, ?_, hd2, ?_⟩
 ·intro k o ho e he hb
  have hk := (Array.getElem?_eq_some_iff.1 ho).1
  have := h0 k (List.mem_range.2 hk)
  rw [ho] at this
  simp only [Option.all_some, Array.all_eq_true_iff_forall_mem] at this
  have := this e he
  rw [hb] at this
  simpa using this
 ·intro k o ho j hj
  have hk := (Array.getElem?_eq_some_iff.1 ho).1
  have hjk : j < k := by
   apply Classical.byContradiction
   intro hn
   rw [hd2 k hk j (by omega)] at hj
   cases hj
  have := h1 k (List.mem_range.2 hk)
  rw [List.all_eq_true] at this
  have := this j (List.mem_range.2 hjk)
  rw [hj, ho] at this
  simp only [Bool.not_true, Bool.false_or, Option.any_some] at this
  rw [← Array.any_toList, List.any_eq_true] at this
  obtain ⟨e, he, hb⟩ := this
  simp only [Bool.and_eq_true, Bool.or_eq_true, beq_iff_eq] at hb
  exact ⟨e, by simpa using he, hb.1, hb.2⟩
 ·intro k j x y t hk hj hne hx hy hd hor
  have := h3 k (List.mem_range.2 hk)
  rw [List.all_eq_true] at this
  have := this j (List.mem_range.2 hj)
  rw [hy, hx] at this
  have hd' : ((some y).bind fun x => x.dst) = some t := hd
  simp only [hd', Option.any_some] at this
  rw [Bool.or_eq_true] at this
  rcases this with h | h
  ·exact absurd (by simpa using h) hne
  ·have hc : ((opTmps x.op).contains t || (gTmps x.g).contains t || x.dst == some t) = true := by
    rcases hor with h | h | h
    ·simp [h]
    ·simp [h]
    ·simp [h]
   rw [hc] at h
   simp only [Bool.not_true, Bool.false_or] at h
   by_cases hlt : j < k
   ·rw [if_pos hlt] at h; exact .inl ⟨hlt, h⟩
   ·rw [if_neg hlt] at h; exact .inr ⟨by omega, h⟩
/-- The facts of one step, taken apart. -/
structure PRun (P : Program) (p : Id) (n0 : Nat) (rs : List (Option (List Id))) (H0 : Hp) (T0 : Tm) (ms : List Nat) (pl : List PStep) (k : Nat) (x : PStep) : Prop where
 res : ResTo P (heapAt p n0 rs H0 (ms.getD k 0) x.so.op (pl.take k)) x.v x.e (evOp P (tov allL 0 (pl.take k) T0) (heapAt p n0 rs H0 (ms.getD k 0) x.so.op (pl.take k)) ((n0 + k) :: p) x.so.op)
 old : oldIn x.e (heapAt p n0 rs H0 (ms.getD k 0) x.so.op (pl.take k))
 c3 : ∀ j y, (pl.take k)[j]? = some y → (ms.getD k 0).testBit j = false → ∀ z ∈ wrs y.e ((n0 + j) :: p), hget (heapAt p n0 rs H0 (ms.getD k 0) x.so.op (pl.take k)) z = none
 c4 : ∀ j y, (pl.take k)[j]? = some y → (n0 + k) :: p ∉ wrs y.e ((n0 + j) :: p)
 c5 : ∀ j y, (pl.take k)[j]? = some y → (ms.getD k 0).testBit j = false → y.ran = true → usesH y.so.op = true → ∀ z ∈ wrs x.e ((n0 + k) :: p), hget (heapAt p n0 rs H0 (ms.getD j 0) y.so.op ((pl.take k).take j)) z = none
theorem take_get {α : Type} {l : List α} {j k : Nat} {y : α} (h : l[j]? = some y) (hj : j < k) : (l.take k)[j]? = some y := by
 rw [List.getElem?_take_of_lt hj]; exact h
theorem PFact.run {P : Program} {p : Id} {n0 : Nat} {rs : List (Option (List Id))} {H0 : Hp} {T0 : Tm} {ms : List Nat} {pl : List PStep} {k : Nat} {x : PStep} (h : PFact P p n0 rs H0 T0 ms pl k x) (ht : ∀ j, j < k → (pl.take k).take j = pl.take j) :
  (x.so.g = none ∧ x.ran = true ∧ PRun P p n0 rs H0 T0 ms pl k x) ∨
  ∃ t b, x.so.g = some (t, b) ∧ ((tget (tov allL 0 (pl.take k) T0) t = .tv (.bool b) ∧ x.ran = true ∧ PRun P p n0 rs H0 T0 ms pl k x) ∨ ((tget (tov allL 0 (pl.take k) T0) t = .tv (.bool !b) ∨ tget (tov allL 0 (pl.take k) T0) t = .tup []) ∧ x.ran = false ∧ x.v = .tup [] ∧ x.e = .no)) := by
 have fix : ∀ j (y : PStep), (pl.take k)[j]? = some y → (pl.take k).take j = pl.take j := fun j y hj => ht j (by
  have := (List.getElem?_eq_some_iff.1 hj).1
  simp at this; omega)
 unfold PFact at h
 cases hg : x.so.g with
 | none =>
  rw [hg] at h
  obtain ⟨a, b, c, d, e, f⟩ := h
  exact .inl ⟨rfl, a, b, c, d, e, fun j y hj => by rw [fix j y hj]; exact f j y hj⟩
 | some tb =>
  obtain ⟨t, b⟩ := tb
  rw [hg] at h
  refine .inr ⟨t, b, rfl, ?_⟩
  rcases h with ⟨g, a, b, c, d, e, f⟩ | h
  ·exact .inl ⟨g, a, b, c, d, e, fun j y hj => by rw [fix j y hj]; exact f j y hj⟩
  ·exact .inr h
section
variable {E : En} {B : Base} {w0 w : World} {σ0 : Facts} {ι0 : Where} {q : Id} {ds : List Deferred} {p : Id} {n0 : Nat} {rs : List (Option (List Id))} {pl : List PStep} {T0 : Tm} {H0 : Hp} {L L' : Nat → Bool} {a : Act} {σ : Facts} {ι : Where}
 {ops : Array Oper} {os : List SOp} {ms : List Nat} {Q : Exit → Act → World → Prop}
theorem draw_step (hD : DOk ops os ms) (hlen : pl.length = ops.size) (hso : pl.map (·.so) = os) (hf : ∀ k x, pl[k]? = some x → PFact E.P p n0 rs H0 T0 ms pl k x)
  (hos : ∀ (k : Nat) o, ops[k]? = some o → operOk E.nt o = true ∧ ∃ so, os[k]? = some so ∧ slimOp ops o = some so)
  (hs : DInv E B w0 σ0 ι0 q ds p n0 pl T0 H0 L a w σ ι) (hclo : ∀ i, L i = true → ∀ j, (ms.getD i 0).testBit j = true → L j = true)
  {i : Nat} {o : Oper} (ho : ops[i]? = some o) (hi : L i = false) (hm : ∀ j, (ms.getD i 0).testBit j = true → L j = true)
  (hL' : ∀ j, j ≠ i → L' j = L j) (hLi : L' i = true)
  {K : Act → World → Prop} (hK : ∀ a' w' σ' ι', DInv E B w0 σ0 ι0 q ds p n0 pl T0 H0 L' a' w' σ' ι' → K a' w') : wpOpIn E.F 0 E.P ops Q i K a w := by
 have hisz : i < ops.size := (Array.getElem?_eq_some_iff.1 ho).1
 obtain ⟨hok, so, hsoi, hslim⟩ := hos i o ho
 have hx : ∃ x, pl[i]? = some x ∧ x.so = so := by
  rw [← hso, List.getElem?_map] at hsoi
  cases hp : pl[i]? with
  | none => rw [hp] at hsoi; cases hsoi
  | some x => rw [hp] at hsoi; simp at hsoi; exact ⟨x, rfl, hsoi⟩
 obtain ⟨x, hx, hxso⟩ := hx
 have hosx : ∀ (j : Nat) (y : PStep), pl[j]? = some y → os[j]? = some y.so := fun j y hy => by rw [← hso, List.getElem?_map, hy]; rfl
 have hjsz : ∀ (j : Nat) (y : PStep), pl[j]? = some y → j < ops.size := fun j y hy => by rw [← hlen]; exact (List.getElem?_eq_some_iff.1 hy).1
 have htake : ∀ k j, j < k → (pl.take k).take j = pl.take j := fun k j h => by rw [List.take_take, Nat.min_eq_left (by omega)]
 have hfacts := fun (j : Nat) (y : PStep) (hy : pl[j]? = some y) => (hf j y hy).run (fun m hm => htake j m hm)
 -- what is not listed before i, and what is listed behind it
 have later : ∀ j, i < j → L j = true → (ms.getD j 0).testBit i = false := fun j _ hl => by
  cases hb : (ms.getD j 0).testBit i with
  | false => rfl
  | true => have := hclo j hl i hb; rw [hi] at this; cases this
 -- the temporaries that i looks at
 have hT : ∀ t, (t ∈ opTmps x.so.op ∨ t ∈ gTmps x.so.g) → tget (tov L 0 pl T0) t = tget (tov allL 0 (pl.take i) T0) t := by
  intro t ht
  rw [tov_fz, tov_fz, fz_take]
  refine fz_congr _ _ _ fun j y hy hl z => ?_
  simp only [Nat.zero_add, allL, Bool.true_and] at hl ⊢
  simp only [tact]
  by_cases hd : y.so.dst = some t
  ·exfalso
   have hji : j ≠ i ∨ j = i := by omega
   rcases hji with hji | rfl
   ·rcases hD.d3 i j x.so y.so t hisz (hjsz j y hy) hji (hosx i x hx) (hosx j y hy) hd (ht.imp id .inl) with ⟨h1, h2⟩ | ⟨h1, h2⟩
    ·apply hl; rw [hm j h2]; simp [h1]
    ·have hn : ¬ j < i := by omega
     have : L j = true := by
      revert hl; cases L j <;> simp [hn]
     rw [later j h1 this] at h2; cases h2
   ·apply hl; rw [hi]; simp
  ·rw [if_neg hd]
 have hTo : ∀ t, (t ∈ opTmps x.so.op ∨ t ∈ gTmps x.so.g) → tget (tov allL 0 (pl.take i) T0) t = tget (tov L 0 pl T0) t := fun t ht => (hT t ht).symm
 -- the new temporaries
 have hT' : ∀ t, tget (tov L' 0 pl T0) t = tget (tset x.so.dst x.v (tov L 0 pl T0)) t := by
  intro t
  have h1 : fz (tact t) L' 0 pl (tget T0 t) = tact t (0 + i) x (fz (tact t) L 0 pl (tget T0 t)) := by
   refine fz_put pl 0 i x _ hx (by simpa using hi) (fun j hj => hL' j (by simpa using hj)) (by simpa using hLi) ?_
   by_cases hd : x.so.dst = some t
   ·right
    intro j y hy hij hl z
    simp only [Nat.zero_add] at hl ⊢
    simp only [tact]
    by_cases hdy : y.so.dst = some t
    ·exfalso
     rcases hD.d3 i j x.so y.so t hisz (hjsz j y hy) (by omega) (hosx i x hx) (hosx j y hy) hdy (.inr (.inr hd)) with ⟨h1, h2⟩ | ⟨h1, h2⟩
     ·omega
     ·rw [later j h1 hl] at h2; cases h2
    ·rw [if_neg hdy]
   ·left; intro z; simp only [tact]; rw [if_neg hd]
  rw [tov_fz, h1, ← tov_fz]
  simp only [tact, tset]
  cases hd : x.so.dst with
  | none => simp
  | some d => simp only [tget, Option.some.injEq]
 -- the new heap
 have hH' : ∀ z, hget (hov p n0 L' 0 pl H0) z = hget (x.e.app (hov p n0 L 0 pl H0) ((n0 + i) :: p)) z := by
  intro z
  have h1 : fz (gact p n0 z) L' 0 pl (hget H0 z) = gact p n0 z (0 + i) x (fz (gact p n0 z) L 0 pl (hget H0 z)) := by
   refine fz_put pl 0 i x _ hx (by simpa using hi) (fun j hj => hL' j (by simpa using hj)) (by simpa using hLi) ?_
   by_cases hz : z ∈ wrs x.e ((n0 + i) :: p)
   ·right
    intro j y hy hij hl u
    simp only [Nat.zero_add] at hl ⊢
    refine hact_out (fun hzy => ?_) u
    have run : PRun E.P p n0 rs H0 T0 ms pl j y → False := by
     intro hr
     have hb := later j hij hl
     have hnone := hr.c3 i x (take_get hx hij) hb
     have h4 := hr.c4 i x (take_get hx hij)
     have hold := hr.old
     cases hye : y.e with
     | no => rw [hye] at hzy; simp [wrs] at hzy
     | new _ =>
      rw [hye] at hzy; simp [wrs] at hzy
      subst hzy; exact h4 hz
     | upd k _ =>
      rw [hye] at hzy hold; simp [wrs] at hzy
      subst hzy
      simp only [oldIn] at hold
      rw [hnone z hz] at hold; cases hold
     | repl k _ =>
      rw [hye] at hzy hold; simp [wrs] at hzy
      rcases hzy with rfl | rfl
      ·simp only [oldIn] at hold
       rw [hnone z hz] at hold; cases hold
      ·exact h4 hz
    rcases hfacts j y hy with ⟨_, _, hr⟩ | ⟨_, _, _, ⟨_, _, hr⟩ | ⟨_, _, _, he⟩⟩
    ·exact run hr
    ·exact run hr
    ·rw [he] at hzy; simp [wrs] at hzy
   ·left; intro u; simp only [Nat.zero_add]; exact hact_out hz u
  rw [hov_fz, h1, ← hov_fz, hget_app]
  simp only [Nat.zero_add]; rfl
 have hd' : ∀ t, x.so.dst = some t → t < E.nt := by
  intro t ht
  simp only [operOk, Bool.and_eq_true] at hok
  have hdst : o.dst = x.so.dst := by
   rw [hxso]
   unfold slimOp at hslim
   split at hslim
   ·simp at hslim; subst hslim; rfl
   ·split at hslim
    ·simp at hslim; subst hslim; rfl
    ·cases hslim
  have := hok.1.2; rw [hdst, ht] at this; simpa using this
 have hdo : o.dst = x.so.dst ∧ o.op = x.so.op := by
  rw [hxso]
  unfold slimOp at hslim
  split at hslim
  ·simp at hslim; subst hslim; exact ⟨rfl, rfl⟩
  ·split at hslim
   ·simp at hslim; subst hslim; exact ⟨rfl, rfl⟩
   ·cases hslim
 have hfre : ∀ j, ((n0 + i) :: p) <:+ j → ι j = none := fun j hj => hs.fr j i hi hj
 have fin : ∀ u w' σ' ι', VR σ' ι' x.v u → WR B w0 σ' ι' (x.e.app (hov p n0 L 0 pl H0) ((n0 + i) :: p)) w' → (∀ x y, σ x y → σ' x y) → (∀ j y, ι j = some y → ι' j = some y) → (∀ j, ¬ ((n0 + i) :: p) <:+ j → ι' j = ι j) → K (a.put o.dst u) w' := by
  intro u w' σ' ι' hv hw h1 h2 h3
  rw [hdo.1]
  refine hK _ _ σ' ι' ⟨fun x y hx => h1 _ _ (hs.le x y hx), fun j y hj => h2 _ _ (hs.lei j y hj), fun j hj => ?_, hw.weaken (fun z o hz => by rw [← hH']; exact hz), ?_, ?_, hs.qp, fun j k hk hj => ?_, ?_, hs.nk⟩
  ·rw [h3 j (fun h => hj ((hs.qp.trans (List.suffix_cons _ _)).trans h))]; exact hs.out j hj
  ·refine TRel.congr (T := tset x.so.dst x.v (tov L 0 pl T0)) ?_ hT'
   exact TRel.put (fun t => (hs.tr t).mono h1 h2) (fun t e => by rw [hs.nt]; exact hd' t e) hv
  ·cases x.so.dst <;> simp [Act.put, hs.nt]
  ·have hki : k ≠ i := fun e => by subst e; rw [hLi] at hk; cases hk
   rw [h3 j (fun h => by have := suffix_cons_ne hj h; omega)]
   exact hs.fr j k (by rw [← hL' k hki]; exact hk) hj
  ·have := hs.df.mono h1 h2
   cases x.so.dst <;> exact this
 -- a carried out operation
 have runs : x.ran = true → PRun E.P p n0 rs H0 T0 ms pl i x → o.wpIn E.F 0 E.P a w K Q := by
  intro hran hr
  have hsub : Sub (heapAt p n0 rs H0 (ms.getD i 0) x.so.op (pl.take i)) (hov p n0 L 0 pl H0) := by
   intro z ao hz
   have hc3 := hr.c3
   cases hu : usesH x.so.op with
   | false => unfold heapAt at hz; rw [hu] at hz; simp [hget] at hz
   | true =>
    have hz0 := hz
    have hat : heapAt p n0 rs H0 (ms.getD i 0) x.so.op (pl.take i) = rst (rs.getD (pl.take i).length none) (hov p n0 (fun j => (ms.getD i 0).testBit j) 0 (pl.take i) H0) := by unfold heapAt; rw [hu]; rfl
    rw [hat] at hz
    have hz := rst_sub _ _ _ _ hz
    rw [hov_fz, fz_take] at hz
    rw [hov_fz, ← hz]
    refine fz_congr _ _ _ fun j y hy hl u => ?_
    simp only [Nat.zero_add] at hl ⊢
    refine hact_out (fun hzy => ?_) u
    by_cases hji : j < i
    ·cases hb : (ms.getD i 0).testBit j with
     | true => apply hl; rw [hm j hb, hb]; simp [hji]
     | false =>
      have := hc3 j y (take_get hy hji) hb z hzy
      rw [this] at hz0; cases hz0
    ·have hl' : L j = true := by revert hl; cases L j <;> simp [hji]
     have hne : j ≠ i := fun e => by subst e; rw [hi] at hl'; cases hl'
     have hij : i < j := by omega
     have run : PRun E.P p n0 rs H0 T0 ms pl j y → False := by
      intro hrj
      have := hrj.c5 i x (take_get hx hij) (later j hij hl') hran hu z hzy
      rw [htake j i hij, hz0] at this; cases this
     rcases hfacts j y hy with ⟨_, _, hr⟩ | ⟨_, _, _, ⟨_, _, hr⟩ | ⟨_, _, _, he⟩⟩
     ·exact run hr
     ·exact run hr
     ·rw [he] at hzy; simp [wrs] at hzy
  have hres := hr.res
  rw [evOp_congr (T' := tov L 0 pl T0) (fun t ht => hTo t (.inl ht))] at hres
  have hres' : ResTo E.P (hov p n0 L 0 pl H0) x.v x.e (evOp E.P (tov L 0 pl T0) (hov p n0 L 0 pl H0) ((n0 + i) :: p) o.op) := by
   rw [hdo.2]
   rcases evOp_mono (P := E.P) (T := tov L 0 pl T0) (id := (n0 + i) :: p) (op := x.so.op) hsub with h | h
   ·rw [h] at hres; exact hres.elim
   ·rw [h]; exact hres.mono hsub
  exact step_res hs.wr hs.tr hfre hok hres' fin
 unfold wpOpIn
 simp only [ho]
 have hg : ∀ t b, x.so.g = some (t, b) → ∃ j, o.guard = some (j, b) ∧ (ops[j]?).bind (·.dst) = some t := by
  intro t b hg
  rw [hxso] at hg
  unfold slimOp at hslim
  split at hslim
  ·simp at hslim; subst hslim; cases hg
  ·rename_i j b' hgo
   split at hslim
   ·rename_i t' ht'
    simp at hslim; subst hslim
    simp only [Option.some.injEq, Prod.mk.injEq] at hg
    obtain ⟨rfl, rfl⟩ := hg
    exact ⟨j, hgo, ht'⟩
   ·cases hslim
 rcases hfacts i x hx with ⟨hgn, hran, hr⟩ | ⟨t, b, hgs, h⟩
 ·have hw : Region.wanted o (yielded ops a.tmps) = true := by
   have : o.guard = none := by
    rw [hxso] at hgn
    unfold slimOp at hslim
    split at hslim
    ·assumption
    ·split at hslim
     ·simp at hslim; subst hslim; cases hgn
     ·cases hslim
   simp [Region.wanted, this]
  rw [if_pos hw]
  exact runs hran hr
 ·have hTt := hT t (.inr (by rw [hgs]; simp [gTmps]))
  obtain ⟨j, hgo, hdj⟩ := hg t b hgs
  rcases h with ⟨hcb, hran, hr⟩ | ⟨hcb, hran, hv, he⟩
  ·rw [← hTt] at hcb
   have hy := yielded_of (ops := ops) hs.tr hdj hcb
   rw [if_pos (by simp [Region.wanted, hgo, hy])]
   exact runs hran hr
  ·rw [← hTt] at hcb
   have hw : Region.wanted o (yielded ops a.tmps) = false := by
    rcases hcb with hcb | hcb
    ·have hy := yielded_of (ops := ops) hs.tr hdj hcb
     simp [Region.wanted, hgo, hy]
    ·have hy := yielded_none (ops := ops) hs.tr hdj hcb
     simp [Region.wanted, hgo, hy]
   rw [if_neg (by rw [hw]; simp)]
   refine ⟨fun _ _ => trivial, fin undef w σ ι ?_ ?_ (fun _ _ h => h) (fun _ _ h => h) (fun _ _ => rfl)⟩
   ·rw [hv]; exact .tup [] [] rfl (fun j c u h _ => by simp at h)
   ·rw [he]; exact hs.wr
theorem count_set {l : List Bool} : ∀ {i : Nat}, l[i]? = some false → (l.set i true).count false + 1 = l.count false := by
 induction l with
 | nil => intro i h; simp at h
 | cons b l ih =>
  intro i h
  cases i with
  | zero => simp at h; subst h; simp
  | succ i => simp at h; have := ih h; simp only [List.set_cons_succ, List.count_cons]; omega
theorem draw_any (hD : DOk ops os ms) (hlen : pl.length = ops.size) (hso : pl.map (·.so) = os) (hf : ∀ k x, pl[k]? = some x → PFact E.P p n0 rs H0 T0 ms pl k x)
  (hos : ∀ (k : Nat) o, ops[k]? = some o → operOk E.nt o = true ∧ ∃ so, os[k]? = some so ∧ slimOp ops o = some so)
  (hQ : ∀ a w σ ι, DInv E B w0 σ0 ι0 q ds p n0 pl T0 H0 (fun k => decide (k < ops.size)) a w σ ι → Q .normal a w) :
  ∀ (fuel : Nat) (listed : Array Bool) (a : Act) (w : World) (σ : Facts) (ι : Where), listed.size = ops.size → listed.toList.count false ≤ fuel →
   (∀ i, listed.getD i false = true → ∀ j, (ms.getD i 0).testBit j = true → listed.getD j false = true) →
   DInv E B w0 σ0 ι0 q ds p n0 pl T0 H0 (fun k => listed.getD k false) a w σ ι → wpAnyIn E.F 0 E.P .any ops Q fuel listed a w := by
 have hall : ∀ (listed : Array Bool), listed.size = ops.size → Region.ready .any ops listed = [] → ∀ k, listed.getD k false = decide (k < ops.size) := by
  intro listed hsz hr k
  induction k using Nat.strongRecOn with
  | _ k ih =>
   by_cases hk : k < ops.size
   ·cases hl : listed.getD k false with
    | true => simp [hk]
    | false =>
     exfalso
     have hmem : k ∈ Region.ready .any ops listed := by
      rw [mem_ready]
      refine ⟨?_, ops[k], by simp [hk], fun e he hb => ?_⟩
      ·rw [Array.getD_eq_getD_getElem?, Array.getElem?_eq_getElem (by rw [hsz]; exact hk)] at hl ⊢
       exact hl
      ·have hlt := hD.d0 k ops[k] (by simp [hk]) e he hb
       rw [ih e.on hlt]
       simp; omega
     rw [hr] at hmem; cases hmem
   ·rw [Array.getD_eq_getD_getElem?, Array.getElem?_eq_none (by rw [hsz]; omega)]
    simp [hk]
 have done : ∀ (listed : Array Bool) a w σ ι, listed.size = ops.size → DInv E B w0 σ0 ι0 q ds p n0 pl T0 H0 (fun k => listed.getD k false) a w σ ι → Region.ready .any ops listed = [] → Q .normal a w := by
  intro listed a w σ ι hsz hs hr
  refine hQ a w σ ι ?_
  have : (fun k => listed.getD k false) = (fun k => decide (k < ops.size)) := funext fun k => hall listed hsz hr k
  rw [← this]; exact hs
 intro fuel
 induction fuel with
 | zero =>
  intro listed a w σ ι hsz hc hclo hs
  have hr : Region.ready .any ops listed = [] := by
   cases hr : Region.ready .any ops listed with
   | nil => rfl
   | cons i r =>
    exfalso
    have hm : i ∈ Region.ready .any ops listed := by rw [hr]; simp
    rw [mem_ready] at hm
    obtain ⟨h0, o, ho, _⟩ := hm
    have hi : i < listed.size := by rw [hsz]; exact (Array.getElem?_eq_some_iff.1 ho).1
    have h1 : false ∈ listed.toList := by
     rw [Array.getD_eq_getD_getElem?, Array.getElem?_eq_getElem hi] at h0
     simp only [Option.getD_some] at h0
     rw [← h0]; simp
    have := List.count_pos_iff.2 h1
    omega
  exact ⟨hr, done listed a w σ ι hsz hs hr⟩
 | succ fuel ih =>
  intro listed a w σ ι hsz hc hclo hs
  refine ⟨fun hr => done listed a w σ ι hsz hs hr, fun i hi => ?_⟩
  rw [mem_ready] at hi
  obtain ⟨h0, o, ho, hedge⟩ := hi
  have hisz : i < listed.size := by rw [hsz]; exact (Array.getElem?_eq_some_iff.1 ho).1
  have h0' : listed.getD i false = false := by
   rw [Array.getD_eq_getD_getElem?, Array.getElem?_eq_getElem hisz] at h0 ⊢; exact h0
  have hm : ∀ j, (ms.getD i 0).testBit j = true → listed.getD j false = true := by
   intro j hj
   obtain ⟨e, he, hb, hor⟩ := hD.d1 i o ho j hj
   rcases hor with rfl | hor
   ·exact hedge e he hb
   ·exact hclo e.on (hedge e he hb) j hor
  have hne : ∀ j, j ≠ i → (listed.setIfInBounds i true).getD j false = listed.getD j false := fun j hj => getD_set_ne false (Ne.symm hj)
  have heq : (listed.setIfInBounds i true).getD i false = true := by
   rw [Array.getD_eq_getD_getElem?, Array.getElem?_setIfInBounds_self_of_lt hisz]; rfl
  refine draw_step hD hlen hso hf hos hs hclo ho h0' hm hne heq (fun a' w' σ' ι' hs' => ih _ a' w' σ' ι' (by simp [hsz]) ?_ ?_ hs')
  ·have hl : listed.toList[i]? = some false := by
    rw [Array.getD_eq_getD_getElem?, Array.getElem?_eq_getElem hisz] at h0
    simp only [Option.getD_some] at h0
    simp [hisz, h0]
   have hcnt : (listed.setIfInBounds i true).toList.count false + 1 = listed.toList.count false := by
    rw [Array.toList_setIfInBounds]
    exact count_set hl
   omega
  ·intro k hk j hj
   by_cases hji : j = i
   ·subst hji; exact heq
   ·rw [hne j hji]
    by_cases hki : k = i
    ·subst hki; exact hm j hj
    ·rw [hne k hki] at hk; exact hclo k hk j hj
end
theorem repl_false (n k : Nat) : (Array.replicate n false).getD k false = false := by
 rw [Array.getD_eq_getD_getElem?, Array.getElem?_replicate]
 split <;> rfl
/-- A region that draws its order. -/
theorem at_draw {E : En} {rs : List (Option (List Id))} {id : Nat} {ops : Array Oper} {os : List SOp} {Q : Exit → St → Prop} {T : Tm} {H : Hp} {p : Id} {n : Nat} (ms : List Nat) (hmix : E.P.follows .mixedOrders = true) (hsl : slim E.nt ops = some os) (hok : drawOk ops os ms = true)
  (h : evd E.P p n rs H os ms 0 T [] [] (fun T' H' n' => Q .normal ⟨T', H', p, n'⟩)) : AT E (.region id ops true) Q ⟨T, H, p, n⟩ := by
 rintro B w0 σ0 ι0 q ds a w ⟨σ, ι, hs⟩
 have hall : ops.toList.all (operOk E.nt) = true ∧ slims ops ops.toList = some os := by
  unfold slim at hsl
  split at hsl
  ·rename_i hall; exact ⟨hall, hsl⟩
  ·cases hsl
 obtain ⟨h1, h2⟩ := slims_get _ _ _ hall.2
 have hos : ∀ (k : Nat) o, ops[k]? = some o → operOk E.nt o = true ∧ ∃ so, os[k]? = some so ∧ slimOp ops o = some so := by
  intro k o ho
  have hk : k < os.length := by rw [h1]; simpa using (Array.getElem?_eq_some_iff.1 ho).1
  refine ⟨?_, os[k], by simp [hk], ?_⟩
  ·have := hall.1
   rw [List.all_eq_true] at this
   exact this o (by simpa using Array.mem_of_getElem? ho)
  ·obtain ⟨x, hx, hsx⟩ := h2 k os[k] (by simp [hk])
   have : x = o := by
    have hx' : ops[k]? = some x := by simpa using hx
    rw [ho] at hx'; exact (Option.some.inj hx').symm
   rw [← this]; exact hsx
 obtain ⟨pl, hso, hf, hK⟩ := evd_plan (P := E.P) (p := p) (n0 := n) (rs := rs) (H0 := H) (T0 := T) ms os [] [] (fun k x hk => by simp at hk) (fun j y hj => by simp at hj) h
 simp only [List.map_nil, List.nil_append] at hso
 have hlen : pl.length = ops.size := by
  have := congrArg List.length hso
  simp at this; rw [this, h1]; simp
 refine wpIn_region_any hmix (draw_any (B := B) (w0 := w0) (σ0 := σ0) (ι0 := ι0) (q := q) (ds := ds) (drawOk_spec hok) hlen hso hf hos ?_ ops.size (Array.replicate ops.size false) a _ σ ι (by simp) ?_ ?_ ?_)
 ·intro a' w' σ' ι' hs'
  have hfz : ∀ {X : Type} (act : Nat → PStep → X → X) (x : X), fz act allL 0 pl x = fz act (fun k => decide (k < ops.size)) 0 pl x := fun act x => fz_congr _ _ _ fun j y hy hl => absurd (by
   have := (List.getElem?_eq_some_iff.1 hy).1
   simp [allL]; omega) hl
  refine ⟨_, hK, σ', ι', hs'.le, hs'.lei, hs'.out, hs'.wr.weaken (fun z o hz => ?_), hs'.tr.congr (fun t => ?_), hs'.nt, hs'.qp, fun j k hk hj => ?_, hs'.df.same ?_, hs'.nk⟩
  ·rw [hov_fz] at hz ⊢; rw [← hfz]; exact hz
  ·rw [tov_fz, tov_fz, hfz]
  ·have hk' : n + pl.length ≤ k := hk
   have := hs'.fr j (k - n) (by simp; omega)
   rw [show n + (k - n) = k by omega] at this
   exact this hj
  ·rw [tov_fz]
   refine fz_out _ _ _ fun j y hy _ z => ?_
   have hosj : os[j]? = some y.so := by rw [← hso, List.getElem?_map, hy]; rfl
   have hj : j < ops.size := by rw [← hlen]; exact (List.getElem?_eq_some_iff.1 hy).1
   obtain ⟨hopk, so, hso', hsl'⟩ := hos j ops[j] (by simp [hj])
   rw [hosj] at hso'; cases hso'
   have hdo : ops[j].dst = y.so.dst := by
    unfold slimOp at hsl'
    split at hsl'
    ·simp only [Option.some.injEq] at hsl'; rw [← hsl']
    ·split at hsl'
     ·simp only [Option.some.injEq] at hsl'; rw [← hsl']
     ·cases hsl'
   simp only [operOk, Bool.and_eq_true] at hopk
   have h3 := hopk.1.2
   have hnk := hs.nk
   simp only [tact]
   rw [hdo] at h3
   cases hd : y.so.dst with
   | none => simp
   | some t =>
    rw [hd] at h3
    simp at h3
    rw [if_neg (fun e => Nat.ne_of_lt (Nat.lt_of_lt_of_le h3 hnk) (Option.some.inj e))]
 ·rw [Array.toList_replicate]
  simp [List.count_replicate]
 ·intro i hi
  rw [repl_false] at hi; cases hi
 ·have hf0 : ∀ {X : Type} (act : Nat → PStep → X → X) (x : X), fz act (fun k => (Array.replicate ops.size false).getD k false) 0 pl x = x := fun act x => fz_out _ _ _ fun j y hy hl => by
   simp only [repl_false] at hl; cases hl
  refine ⟨hs.le, hs.lei, hs.out, ?_, ?_, hs.nt, hs.qp, ?_, hs.df, hs.nk⟩
  ·exact (hs.wr.drawn _).weaken (fun z o hz => by rw [hov_fz, hf0] at hz; exact hz)
  ·exact hs.tr.congr fun t => by rw [tov_fz, hf0]
  ·intro j k _ hj
   exact hs.fr j (n + k) (by show n ≤ n + k; omega) hj
end Go.Proofs.YtphmhelkojdlaaaDoor
namespace Go.Proofs.YtphmhelkojdlaaaDoor
open Go.RowKit
set_option linter.unusedSimpArgs false
set_option linter.unusedVariables false
def tsets : List Nat → List AV → Tm → Tm
 | t :: ts, v :: vs, T => tsets ts vs ((t, v) :: T)
 | _, _, T => T
theorem tsets_rel {σ : Facts} {ι : Where} : ∀ (ps : List Nat) (vs : List AV) (us : List Value) (T : Tm) (tmps : Array Value), TRel σ ι T tmps → VRs σ ι vs us → (∀ t ∈ ps, t < tmps.size) →
  TRel σ ι (tsets ps vs T) ((ps.zip us).foldl (fun tmps (t, a) => tmps.setIfInBounds t a) tmps) ∧ ((ps.zip us).foldl (fun tmps (t, a) => tmps.setIfInBounds t a) tmps).size = tmps.size := by
 intro ps
 induction ps with
 | nil => intro vs us T tmps hT _ _; exact ⟨by simpa [tsets] using hT, by simp⟩
 | cons t ts ih =>
  intro vs us T tmps hT hv hlt
  cases vs with
  | nil => have := hv.nil_inv; subst this; exact ⟨by simpa [tsets] using hT, by simp⟩
  | cons v vs =>
   obtain ⟨u, us', rfl, h1, h2⟩ := hv.cons_inv
   have ht : t < tmps.size := hlt t (by simp)
   obtain ⟨g1, g2⟩ := ih vs us' ((t, v) :: T) (tmps.setIfInBounds t u) (by
    intro k
    simp only [tget]
    by_cases e : t = k
    ·subst e; rw [if_pos rfl]; simp [Array.getD, ht]; exact h1
    ·rw [if_neg e]
     have := hT k
     simp only [Array.getD_eq_getD_getElem?, Array.getElem?_setIfInBounds_ne e] at this ⊢
     exact this) h2 (fun k hk => by simpa using hlt k (by simp [hk]))
   simp only [List.zip_cons_cons, List.foldl_cons, tsets]
   exact ⟨g1, by simpa using g2⟩
/-- How a round's end is told: the record's new state, what yield hands back. -/
def roundQ (i : Id) (q : Id) (post : AV → Hp → Prop) (e : Exit) (s : St) : Prop :=
 ∃ T nt ps asg body st j, hget s.H i = some (.loop T nt ps asg body st j) ∧ match e with
  | .normal => post (.tv (.bool true)) (hset s.H i (.loop T nt ps asg body .ready none))
  | .ret => post (.tv (.bool false)) (hset s.H i (.loop T nt ps asg body .done (some .ret)))
  | .exit k => post (.tv (.bool false)) (hset s.H i (.loop T nt ps asg body .done (some (.exit k))))
  | _ => False
/-- One round, out of the triples of its assignment and its body. -/
theorem yld_of_at {P : Program} {i : Id} {args : List AV} {H : Hp} {q : Id} {post : AV → Hp → Prop} {T : Tm} {nt : Nat} {ps : List Nat} {asg body : Code} {j : Option Code}
  (hi : hget H i = some (.loop T nt ps asg body .ready j)) (hn : args.length = ps.length ∧ (∀ t ∈ ps, t < nt) ∧ nt ≤ 1000000)
  (h : ∀ l, AT ⟨P, some l, nt⟩ asg (fun e s => e = .normal ∧ ∃ T1 nt1 ps1 asg1 body1 j1, hget s.H i = some (.loop T1 nt1 ps1 asg1 body1 .ready j1) ∧
   AT ⟨P, some l, nt⟩ body (roundQ i q post) ⟨s.T, hset s.H i (.loop T1 nt1 ps1 asg1 body1 .busy j1), s.p, s.n⟩) ⟨(1000000, .any) :: tsets ps args T, H, q, 0⟩) : YldOK P i args H q post := by
 intro B w0 σ ι w us l n hw hq hus hil
 obtain ⟨_, obj, hobj, r, rfl, hT, hnt, hps, hasg, hbody, hst, hj⟩ := hw.obj i _ l n hi hil
 have hsz : us.toArray.size = r.params.size := by rw [hps]; simp [hus.1, hn.1]
 refine ⟨_, _, _, _, run_yield hobj hsz, ?_⟩
 have hfold : (r.params.zip us.toArray).foldl (fun tmps (t, a) => tmps.setIfInBounds t a) r.tmps = (ps.zip us).foldl (fun tmps (t, a) => tmps.setIfInBounds t a) r.tmps := by
  rw [hps, List.zip_toArray, List.foldl_toArray]
 rw [hasg, hbody]
 refine roundIn_of_wpIn trivial ?_
 obtain ⟨g1, g2⟩ := tsets_rel ps args us T r.tmps hT hus (fun t ht => by rw [hnt]; exact hn.2.1 t ht)
 have hstart : SR ⟨P, some l, nt⟩ B w0 σ ι q [] ⟨(1000000, .any) :: tsets ps args T, H, q, 0⟩ { tmps := (r.params.zip us.toArray).foldl (fun tmps (t, a) => tmps.setIfInBounds t a) r.tmps, defers := [] } w := by
  refine ⟨σ, ι, fun _ _ h => h, fun _ _ h => h, fun _ _ => rfl, hw, fun k => ?_, ?_, List.suffix_refl _, fun j k _ hj => hq j ((List.suffix_cons _ _).trans hj), ⟨[], rfl, rfl⟩, hn.2.2⟩
  ·simp only [tget]
   split
   ·exact .any _
   ·rw [hfold]; exact g1 k
  ·show _ = nt
   rw [← hnt, ← g2, ← hfold]
 refine wpIn_mono (h l B w0 σ ι q [] _ w hstart) fun e a1 w1 ⟨s1, hq1, σ1, ι1, hs1⟩ => ?_
 obtain ⟨rfl, T1, nt1, ps1, asg1, body1, j1, hi1, hbody1⟩ := hq1
 have hil1 : ι1 i = some (some (l, n)) := hs1.lei _ _ hil
 obtain ⟨_, obj1, hobj1, r1, rfl, hT1, hnt1, hps1, hasg1, hbd1, hst1, hj1⟩ := hs1.wr.obj i _ l n hi1 hil1
 refine ⟨_, run_beginRound hobj1 hst1, ?_⟩
 have hw2 := hs1.wr.putObj hi1 (fun _ h => by cases h) hil1 (.loop T1 nt1 ps1 asg1 body1 .busy j1) (x := .loop { r1 with state := .busy }) ⟨_, rfl, hT1, hnt1, hps1, hasg1, hbd1, rfl, hj1⟩
 have hs2 : SR ⟨P, some l, nt⟩ B w0 σ ι q [] ⟨s1.T, hset s1.H i (.loop T1 nt1 ps1 asg1 body1 .busy j1), s1.p, s1.n⟩ a1 (w1.putObj l (.loop { r1 with state := .busy })) :=
  ⟨σ1, ι1, hs1.le, hs1.lei, hs1.out, hw2, hs1.tr, hs1.nt, hs1.qp, hs1.fr, hs1.df, hs1.nk⟩
 refine wpIn_mono (hbody1 B w0 σ ι q [] a1 _ hs2) fun e a3 w3 ⟨s3, hq3, σ3, ι3, hs3⟩ => ?_
 obtain ⟨T3, nt3, ps3, asg3, body3, st3, j3, hi3, hq3⟩ := hq3
 have hil3 : ι3 i = some (some (l, n)) := hs3.lei _ _ hil
 obtain ⟨_, obj3, hobj3, r3, rfl, hT3, hnt3, hps3, hasg3, hbd3, hst3, hj3⟩ := hs3.wr.obj i _ l n hi3 hil3
 have fin : ∀ (st : LoopState) (jp : Option Code) (v : Value) (b : Bool), v = .bool b → post (.tv (.bool b)) (hset s3.H i (.loop T3 nt3 ps3 asg3 body3 st jp)) →
   ∃ v1 u H' σ' ι', Ending.returned v = .returned u ∧ post v1 H' ∧ VR σ' ι' v1 u ∧ WR B w0 σ' ι' H' (w3.putObj l (.loop { r3 with state := st, pending := jp })) ∧
   (∀ x y, σ x y → σ' x y) ∧ (∀ j y, ι j = some y → ι' j = some y) ∧ ∀ j, ¬ q <:+ j → ι' j = ι j := by
  rintro st jp v b rfl hp
  exact ⟨_, _, _, σ3, ι3, rfl, hp, .tv (.bool b), hs3.wr.putObj hi3 (fun _ h => by cases h) hil3 _ ⟨_, rfl, hT3, hnt3, hps3, hasg3, hbd3, rfl, rfl⟩, hs3.le, hs3.lei, hs3.out⟩
 cases e with
 | normal => exact ⟨_, _, run_endRound none hobj3, fin _ _ _ true rfl hq3⟩
 | ret => exact ⟨_, _, run_endRound (some .ret) hobj3, fin _ _ _ false rfl hq3⟩
 | exit k => exact ⟨_, _, run_endRound (some (.exit k)) hobj3, fin _ _ _ false rfl hq3⟩
 | goto _ => exact hq3.elim
 | panic _ => exact hq3.elim
 | outgrown => exact hq3.elim
def dpush (v d : AV) : AV := match v with
 | .any => .ds [d]
 | .ds l => .ds (d :: l)
 | v => v
/-- The statement itself: the function that is ranged over, called with the rounds' function. -/
theorem at_rangeFunc {P : Program} {nt : Nat} {Q : Exit → St → Prop} {g : Operand} {ps : Array Tmp} {asg body : Code} {T : Tm} {H : Hp} {p : Id} {n : Nat} {f : FuncId} {cap : List AV} {post : AV → Hp → Prop}
  (hg : evo T g = .fn (.func f) cap) (hgo : opdOk g = true) (hf : tFn P f = true)
  (hc : CallOK P f (.yl ((n + 1) :: p) :: cap) (((n + 1) :: p, .loop T nt ps.toList asg body .ready none) :: (n :: p, .dfr) :: H) ((n + 2) :: p) post)
  (hp : ∀ v H', post v H' → ∃ T1 nt1 ps1 asg1 body1 st j, hget H' ((n + 1) :: p) = some (.loop T1 nt1 ps1 asg1 body1 st j) ∧ st ≠ .busy ∧ match j with
   | none => Q .normal ⟨(1000000, dpush (tget T 1000000) (.ptr (n :: p) 0)) :: T, hset H' ((n + 1) :: p) .gone, p, n + 3⟩
   | some .ret => Q .ret ⟨(1000000, dpush (tget T 1000000) (.ptr (n :: p) 0)) :: T, hset H' ((n + 1) :: p) .gone, p, n + 3⟩
   | some (.exit k) => Q (.exit k) ⟨(1000000, dpush (tget T 1000000) (.ptr (n :: p) 0)) :: T, hset H' ((n + 1) :: p) .gone, p, n + 3⟩
   | _ => False) : AT ⟨P, none, nt⟩ (.rangeFunc g ps asg body) Q ⟨T, H, p, n⟩ := by
 rintro B w0 σ0 ι0 q ds a w ⟨σ, ι, hs⟩
 refine wpIn_rangeFunc fun fn _ => ?_
 have hv := evo_ok hs.tr g hgo
 rw [hg] at hv
 obtain ⟨us, hus, hgu⟩ : ∃ us, VRs σ ι cap us ∧ a.eval g = .func (.func f) #[] us.toArray := by
  generalize a.eval g = u at hv
  cases hv with
  | fn _ _ us hl hv => exact ⟨us, ⟨hl, hv⟩, rfl⟩
 -- the two blocks
 have hid0 : ι (n :: p) = none := hs.fr _ n (Nat.le_refl _) (List.suffix_refl _)
 have hid1 : ι ((n + 1) :: p) = none := hs.fr _ (n + 1) (by show n ≤ n + 1; omega) (List.suffix_refl _)
 have hw1 := hs.wr.new (n :: p) hid0 (.deferred (some [])) 0 .dfr rfl
 have hne : ((n + 1) :: p) ≠ n :: p := by simp
 have hid1' : wput ι (n :: p) (some (w.heap.size, 0)) ((n + 1) :: p) = none := by
  unfold wput; rw [if_neg hne]; exact hid1
 have hle1 := wput_le (x := some (w.heap.size, 0)) hid0
 have hle2 := wput_le (x := some ((w.alloc (.deferred (some []))).heap.size, 0)) hid1'
 have hmono := fun j y (h : ι j = some y) => hle2 j y (hle1 j y h)
 have hw2 := hw1.new ((n + 1) :: p) hid1' (.loop { state := .ready, pending := none, fn := fn, tmps := a.tmps, params := ps, assign := asg, body := body, defers := w.heap.size }) 0 (.loop T nt ps.toList asg body .ready none)
  ⟨_, rfl, fun t => (hs.tr t).mono (fun _ _ h => h) hmono, hs.nt, by simp, rfl, rfl, rfl, rfl⟩
 have henter := run_enterLoop_outer (P := P) (w := w) fn a.tmps ps asg body
 have hasz : (w.alloc (.deferred (some []))).heap.size = w.heap.size + 1 := World.size_alloc _ _
 rw [hasz] at hw2 hmono hle2
 generalize hW : (w.alloc (.deferred (some []))).alloc (.loop { state := .ready, pending := none, fn := fn, tmps := a.tmps, params := ps, assign := asg, body := body, defers := w.heap.size }) = W at hw2 henter
 generalize hι : wput (wput ι (n :: p) (some (w.heap.size, 0))) ((n + 1) :: p) (some (w.heap.size + 1, 0)) = ι2 at hw2 hmono hle2
 have hy : ι2 ((n + 1) :: p) = some (some (w.heap.size + 1, 0)) := by rw [← hι]; unfold wput; rw [if_pos rfl]
 have hd : ι2 (n :: p) = some (some (w.heap.size, 0)) := by
  rw [← hι]; unfold wput; rw [if_neg (fun e => hne e.symm), if_pos rfl]
 have hother : ∀ j, j ≠ n :: p → j ≠ (n + 1) :: p → ι2 j = ι j := by
  intro j h1 h2; rw [← hι]; unfold wput; rw [if_neg h2, if_neg h1]
 refine ⟨w.heap.size + 1, _, W, { target := .fn (.func f) us.toArray, args := #[.func (.yield (w.heap.size + 1)) #[] #[]] }, W, f, (.func (.yield (w.heap.size + 1)) #[] #[] :: us).toArray, W, henter, ?_, fun _ _ => trivial, ?_, fun h => (by simp [En.F, Fence.wide] at h), trivial, fun cs hroom => ?_⟩
 ·simp [resolve, rangeCall, hgu, Deferred.ofValue]
  rfl
 ·simp [invoke, callFunc_run hf]
 ·have hfresh : ∀ j, ((n + 2) :: p) <:+ j → ι2 j = none := by
   intro j hj
   rw [hother j (fun e => by subst e; have := hj.length_le; have := List.IsSuffix.eq_of_length hj (by simp); simp at this) (fun e => by subst e; have := List.IsSuffix.eq_of_length hj (by simp); simp at this)]
   exact hs.fr j (n + 2) (by show n ≤ n + 2; omega) hj
  obtain ⟨e, w', fr, ⟨v, u, H', σ', ι', rfl, hpost, hv', hw', h1, h2, h3⟩, x⟩ := (hc B w0 σ ι2 W (.func (.yield (w.heap.size + 1)) #[] #[] :: us) hw2 hfresh (VRs.cons (.yl _ _ _ hy) (hus.mono (fun _ _ h => h) hmono))).2 cs (room_wide _)
  refine ⟨.returned u, w', fr, ?_, x⟩
  obtain ⟨T1, nt1, ps1, asg1, body1, st, j, hi, hst, hq⟩ := hp v H' hpost
  have hil := h2 _ _ hy
  have hid := h2 _ _ hd
  obtain ⟨_, obj, hobj, r, rfl, hT, hnt, hps, hasg, hbd, hst', hj⟩ := hw'.obj _ _ _ _ hi hil
  refine ⟨j, _, by rw [← hj]; exact run_endLoop hobj (by rw [hst']; exact hst), ?_⟩
  have hw3 := hw'.putObj hi (fun _ h => by cases h) hil .gone (x := .loop { r with state := .exhausted }) trivial
  have hle : ∀ k y, ι k = some y → ι' k = some y := fun k y h => h2 _ _ (hmono _ _ h)
  have hdf : Dfs σ' ι' ((1000000, dpush (tget T 1000000) (.ptr (n :: p) 0)) :: T) ds ([{ target := .collected w.heap.size, args := #[] }] ++ a.defers) := by
   obtain ⟨ms, hms, hdr⟩ := hs.df.mono h1 hle
   refine ⟨{ target := .collected w.heap.size, args := #[] } :: ms, by rw [hms]; rfl, ?_⟩
   simp only [tget, if_true]
   generalize tget T 1000000 = dv at hdr
   cases dv with
   | any =>
    have : ms = [] := hdr
    subst this
    refine ⟨rfl, fun j v d hv hd' => ?_⟩
    cases j with
    | zero => simp at hv hd'; subst hv hd'; exact ⟨_, _, hid, rfl⟩
    | succ j => simp at hv
   | ds l =>
    refine ⟨by simp [hdr.1], fun j v d hv hd' => ?_⟩
    cases j with
    | zero => simp at hv hd'; subst hv hd'; exact ⟨_, _, hid, rfl⟩
    | succ j => exact hdr.2 j v d (by simpa using hv) (by simpa using hd')
   | _ => exact hdr.elim
  have hsr : SR ⟨P, none, nt⟩ B w0 σ0 ι0 q ds ⟨(1000000, dpush (tget T 1000000) (.ptr (n :: p) 0)) :: T, hset H' ((n + 1) :: p) .gone, p, n + 3⟩ { a with defers := [{ target := .collected w.heap.size, args := #[] }] ++ a.defers } (w'.putObj (w.heap.size + 1) (.loop { r with state := .exhausted })) := by
   refine ⟨σ', ι', fun x y h => h1 _ _ (hs.le x y h), fun j y h => hle _ _ (hs.lei j y h), fun k hk => ?_, ?_, fun k => ?_, hs.nt, hs.qp, fun k m hm hk => ?_, hdf, hs.nk⟩
   ·have hsuf := hs.qp
    rw [h3 k (fun h => hk ((hsuf.trans (List.suffix_cons _ _)).trans h)), hother k (fun e => by subst e; exact hk (hsuf.trans (List.suffix_cons _ _))) (fun e => by subst e; exact hk (hsuf.trans (List.suffix_cons _ _)))]
    exact hs.out k hk
   ·exact hw3
   ·simp only [tget]
    split
    ·obtain ⟨ms, _, hdr⟩ := hs.df
     generalize tget T 1000000 = dv at hdr
     cases dv with
     | any => exact .ds _ _
     | ds l => exact .ds _ _
     | _ => exact hdr.elim
    ·exact (hs.tr k).mono h1 hle
   ·have hm' : n + 3 ≤ m := hm
    rw [h3 k (fun h => by have := suffix_cons_ne hk h; omega), hother k (fun e => by subst e; have := suffix_cons_ne hk (List.suffix_refl _); omega) (fun e => by subst e; have := suffix_cons_ne hk (List.suffix_refl _); omega)]
    exact hs.fr k m (by show n ≤ m; omega) hk
  cases j with
  | none => exact ⟨_, hq, hsr⟩
  | some c => cases c with
   | ret => exact wpIn_ret ⟨_, hq, hsr⟩
   | exit k => exact wpIn_exit ⟨_, hq, hsr⟩
   | _ => exact hq.elim
end Go.Proofs.YtphmhelkojdlaaaDoor
namespace Go.Proofs.YtphmhelkojdlaaaDoor
open Go.RowKit
set_option linter.unusedSimpArgs false
set_option linter.unusedVariables false
theorem callK_pure {P : Program} {f : FuncId} {args : List AV} {H : Hp} {q : Id} {K : AV → Hp → Prop} {v : AV} (h : PureCall P f args v) (hk : K v H) : callK P f args H q K :=
 ⟨args, H, .inl ⟨rfl, rfl⟩, _, h H q, fun _ _ ⟨e1, e2⟩ => by subst e1 e2; exact hk⟩
theorem callK_frz {P : Program} {f : FuncId} {args args' : List AV} {H H0 : Hp} {q : Id} {K : AV → Hp → Prop} {v : AV} (hf : frzs args H = some (args', H0)) (h : PureCall P f args' v) (hk : K v H0) : callK P f args H q K :=
 ⟨args', H0, .inr hf, _, h H0 q, fun _ _ ⟨e1, e2⟩ => by subst e1 e2; exact hk⟩
theorem callK_at {P : Program} {f : FuncId} {args : List AV} {H : Hp} {q : Id} {K : AV → Hp → Prop} {post : AV → Hp → Prop} (h : CallOK P f args H q post) (hk : ∀ v H', post v H' → K v H') : callK P f args H q K :=
 ⟨args, H, .inl ⟨rfl, rfl⟩, _, h, hk⟩
theorem rowAt_map {α : Type} (f : α → List TV) (l : List α) (i : Int) (d : α) (h : 0 ≤ i ∧ i < (l.length : Int)) : rowAt (l.map f) i = f (l.getD i.toNat d) := by
 have hlt : i.toNat < l.length := by omega
 unfold rowAt
 simp [List.getD, hlt]
theorem clrU_sub {m : Nat} {xs : List Id} {U U' : List (Nat × Hp)} (hs : ∀ x ∈ U, x ∈ U') (h : clrU m xs U') : clrU m xs U := by
 have all : ∀ x ∈ U', (bif m.testBit x.1 then True else clr xs x.2) := by
  clear hs
  induction U' with
  | nil => intro x hx; simp at hx
  | cons y r ih =>
   intro x hx
   simp at hx
   rcases hx with rfl | hx
   ·exact h.1
   ·exact ih h.2 x hx
 induction U with
 | nil => trivial
 | cons y r ih => exact ⟨all _ (hs y (by simp)), ih fun x hx => hs x (by simp [hx])⟩
end Go.Proofs.YtphmhelkojdlaaaDoor
namespace Go.Proofs.YtphmhelkojdlaaaDoor
open Go.RowKit
set_option linter.unusedSimpArgs false
set_option linter.unusedVariables false
/-- A temporary of a region: always told, or told where the literals hold (a guarded operation's). -/
inductive GV where
 | v (a : AV)
 | c (π : List (Nat × Bool)) (a : AV)
abbrev Gm := List (Nat × GV)
def gvGet : Gm → Nat → GV
 | [], _ => .v .any
 | (t, x) :: r, n => if t = n then x else gvGet r n
def gvVal : GV → AV
 | .v a => a
 | .c _ a => a
def bval (C : Gm) (t : Nat) : Bool := match gvVal (gvGet C t) with
 | .tv (.bool c) => c
 | _ => false
def sub (π' π : List (Nat × Bool)) : Bool := π'.all fun l => π.any fun m => l.1 == m.1 && l.2 == m.2
def rdable (C : Gm) (π : List (Nat × Bool)) (t : Nat) : Bool := match gvGet C t with
 | .v _ => true
 | .c π' _ => sub π' π
def lowB (π : List (Nat × Bool)) (C : Gm) : Tm := C.map fun x => (x.1, match x.2 with | .v a => a | .c π' a => bif sub π' π then a else .any)
def upB (T : Tm) : Gm := T.map fun x => (x.1, .v x.2)
def gsetB (d : Option Nat) (x : GV) (C : Gm) : Gm := match d with
 | some d => (d, x) :: C
 | none => C
/-- A guard: its literals; the temporaries that literals name must not be told anew. -/
def guardB (C : Gm) : Option (Nat × Bool) → Option (List (Nat × Bool))
 | none => some []
 | some (t, b) => match gvGet C t with
  | .v (.tv (.bool _)) => some [(t, b)]
  | .c π (.tv (.bool _)) => some ((t, b) :: π)
  | _ => none
def guardU (g : Option (Nat × Bool)) (u : List Nat) : List Nat := match g with
 | none => u
 | some (t, _) => t :: u
def gwrap (g : Option (Nat × Bool)) (π : List (Nat × Bool)) (v : AV) : GV := match g with
 | none => .v v
 | some _ => .c π v
def gq (C : Gm) : List (Nat × Bool) → Prop → Prop
 | [], q => q
 | (t, b) :: π, q => (bval C t = b) → gq C π q
def conj : List Prop → Prop
 | [] => True
 | p :: r => p ∧ conj r
def pickV (c : Bool) (x y : AV) : AV := match x, y with
 | .tv (.bool a), .tv (.bool b) => .tv (.bool (bif c then a else b))
 | .tv (.int k a), .tv (.int k' b) => if k = k' then .tv (.int k (bif c then a else b)) else bif c then x else y
 | .tv (.str a), .tv (.str b) => .tv (.str (bif c then a else b))
 | x, y => bif c then x else y
inductive Ora where
 | std
 | eq (v : AV)
 | eff (v : AV) (o : AO)
 | ret (v : AV)
 | retH (v : AV) (H : Hp)
 | retY (v : AV) (H : Hp)
 | frz (args : List AV) (H : Hp) (v : AV)
 | frz1 (args : List AV) (i : Id) (o : AO) (v : AV)
 | res (r : Res) (v : AV) (e : Eff)
 | retS (v : AV)
def effObj : Eff → AO
 | .no => .gone
 | .new o => o
 | .upd _ o => o
 | .repl _ o => o
def effO : Eff → AO → Eff
 | .no, _ => .no
 | .new _, o => .new o
 | .upd i _, o => .upd i o
 | .repl i _, o => .repl i o
inductive XE where
 | e (e : Eff)
 | h (H : Hp)
 | f (i : Id) (o : AO)
def stepB (P : Program) (H : Hp) (id : Id) (o : Ora) : Res → Option (List Prop × AV × XE)
 | .need q r => match stepB P H id o r with
  | some (ns, v, x) => some (q :: ns, v, x)
  | none => none
 | .val v e => match o with
  | .std => some ([], v, .e e)
  | .eq v' => some ([v = v'], v', .e e)
  | .eff v' ob => some ([v = v', effObj e = ob], v', .e (effO e ob))
  | _ => none
 | .call f args => match o with
  | .ret v => some ([PureCall P f args v], v, .e .no)
  | .retS v => some ([StabCall P f args H v], v, .e .no)
  | .retH v H' => some ([CallOK P f args H id fun v1 H1 => v1 = v ∧ H1 = H'], v, .h H')
  | .frz a' H' v => some ([frzs args H = some (a', H'), PureCall P f a' v], v, .h H')
  | .frz1 a' i ob v => some ([Go.Proofs.YtphmhelkojdlaaaDoor.frz1 H args = some (a', i, ob), PureCall P f a' v], v, .f i ob)
  | _ => none
 | .yld i args => match o with
  | .retY v H' => some ([YldOK P i args H id fun v1 H1 => v1 = v ∧ H1 = H'], v, .h H')
  | _ => none
 | .fail => none
def restB (P : Program) (C : Gm) (H : Hp) (id : Id) (op : Op) (g : Option (Nat × Bool)) (u : List Nat) (o : Ora) (π : List (Nat × Bool)) : Option (List Nat × List Prop × GV × XE) := match (opTmps op).all (rdable C π) with
   | false => none
   | true => match o with
    | .res r v e => match g with
     | none => some (u, [evOp P (lowB π C) H id op = r, (∃ q, r = .need q (.val v e) ∧ q) ∨ r = .val v e], .v v, .e e)
     | some _ => none
    | o => match stepB P H id o (evOp P (lowB π C) H id op) with
     | some (ns, v, x) => match g with
      | none => some (u, ns, .v v, x)
      | some _ => match x with
       | .e .no => some (guardU g u, ns.map (gq C π), .c π v, .e .no)
       | _ => none
     | none => none
/-- One operation: the literals' temporaries, what it asks, its value, its effect. -/
def opB (P : Program) (C : Gm) (H : Hp) (id : Id) (op : Op) (g : Option (Nat × Bool)) (u : List Nat) (o : Ora) : Option (List Nat × List Prop × GV × XE) := match guardB C g with
 | none => none
 | some π => match op with
  | .pick (.tmp x) a b => match rdable C π x && (opTmps (.move a)).all (rdable C ((x, true) :: π)) && (opTmps (.move b)).all (rdable C ((x, false) :: π)) with
   | false => none
   | true => match gvVal (gvGet C x) with
    | .tv (.bool c) => some (x :: guardU g u, [], gwrap g π (pickV c (evo (lowB ((x, true) :: π) C) a) (evo (lowB ((x, false) :: π) C) b)), .e .no)
    | _ => none
  | .pick _ _ _ => none
  | op => restB P C H id op g u o π
def XE.app (x : XE) (H : Hp) (id : Id) : Option Hp := match x with
 | XE.e y => some (Eff.app y H id)
 | XE.h H' => some H'
 | .f _ _ => none
def dstOk (d : Option Nat) (u : List Nat) : Bool := match d with
 | none => true
 | some d => !u.contains d
def evB (P : Program) (p : Id) : List SOp → List Ora → List Nat → Gm → Hp → Nat → Option (List Prop × Gm × Hp × Nat)
 | [], _, _, C, H, n => some ([], C, H, n)
 | ⟨d, op, g⟩ :: os, ors, u, C, H, n => match opB P C H (n :: p) op g u (ors.headD .std) with
  | none => none
  | some (u', ns, x, e) => match dstOk d u' with
   | false => none
   | true => match e.app H (n :: p) with
    | none => none
    | some H1 => match evB P p os ors.tail u' (gsetB d x C) H1 (n + 1) with
     | some (ns2, C', H', n') => some (ns ++ ns2, C', H', n')
     | none => none
def gkeep (l : List Nat) (C : Gm) : Tm := (1000000, gvVal (gvGet C 1000000)) :: l.map fun t => (t, match gvGet C t with | .v a => a | .c _ _ => .any)
def regB (nt : Nat) (P : Program) (p : Id) (ops : Array Oper) (ors : List Ora) (l : List Nat) (T : Tm) (H : Hp) (n : Nat) : Option (List Prop × Tm × Hp × Nat) := match slim nt ops with
 | none => none
 | some os => match evB P p os ors [] (upB T) H n with
  | some (ns, C, H', n') => some (ns, gkeep l C, H', n')
  | none => none

/-! ### It is sound -/
def holdB (C : Gm) (π : List (Nat × Bool)) : Prop := ∀ l ∈ π, bval C l.1 = l.2
structure RelB (u : List Nat) (C : Gm) (T : Tm) : Prop where
 v : ∀ t a, gvGet C t = .v a → tget T t = a
 c : ∀ t π a, gvGet C t = .c π a → (∀ l ∈ π, l.1 ∈ u) ∧ (holdB C π → tget T t = a) ∧ (¬ holdB C π → tget T t = .tup [])
theorem gvGet_upB (T : Tm) (t : Nat) : gvGet (upB T) t = .v (tget T t) := by
 induction T with
 | nil => rfl
 | cons x r ih =>
  simp only [upB, List.map_cons, gvGet, tget]
  split
  ·rfl
  ·exact ih
theorem RelB.up (T : Tm) : RelB [] (upB T) T := ⟨fun t a h => by rw [gvGet_upB] at h; cases h; rfl, fun t π a h => by rw [gvGet_upB] at h; cases h⟩
theorem tget_lowB (π : List (Nat × Bool)) (C : Gm) (t : Nat) : tget (lowB π C) t = match gvGet C t with | .v a => a | .c π' a => bif sub π' π then a else .any := by
 induction C with
 | nil => rfl
 | cons x r ih =>
  simp only [lowB, List.map_cons, gvGet, tget]
  split
  ·rfl
  ·exact ih
theorem sub_hold {C : Gm} {π' π : List (Nat × Bool)} (h : sub π' π = true) (hh : holdB C π) : holdB C π' := by
 intro l hl
 simp only [sub, List.all_eq_true, List.any_eq_true, Bool.and_eq_true, beq_iff_eq] at h
 obtain ⟨m, hm, h1, h2⟩ := h l hl
 rw [h1, h2]; exact hh m hm
theorem rdable_eq {u : List Nat} {C : Gm} {T : Tm} {π : List (Nat × Bool)} {t : Nat} (hr : RelB u C T) (hh : holdB C π) (h : rdable C π t = true) : tget (lowB π C) t = tget T t := by
 rw [tget_lowB]
 unfold rdable at h
 cases e : gvGet C t with
 | v a => exact (hr.v t a e).symm
 | c π' a => rw [e] at h; simp only at h; simp only [h, cond_true]; exact ((hr.c t π' a e).2.1 (sub_hold h hh)).symm
theorem rdable_val {u : List Nat} {C : Gm} {T : Tm} {π : List (Nat × Bool)} {t : Nat} (hr : RelB u C T) (hh : holdB C π) (h : rdable C π t = true) : tget T t = gvVal (gvGet C t) := by
 unfold rdable at h
 split at h
 ·rename_i a e; rw [e]; exact hr.v t a e
 ·rename_i π' a e; rw [e]; exact (hr.c t π' a e).2.1 (sub_hold h hh)
theorem gvGet_set {d : Option Nat} {x : GV} {C : Gm} {t : Nat} : gvGet (gsetB d x C) t = if d = some t then x else gvGet C t := by
 cases d with
 | none => rfl
 | some d =>
  simp only [gsetB, gvGet, Option.some.injEq]
theorem tget_set {d : Option Nat} {x : AV} {T : Tm} {t : Nat} : tget (tset d x T) t = if d = some t then x else tget T t := by
 cases d with
 | none => rfl
 | some d => simp only [tset, tget, Option.some.injEq]
theorem bval_set {d : Option Nat} {x : GV} {C : Gm} {u : List Nat} (h : dstOk d u = true) {t : Nat} (ht : t ∈ u) : bval (gsetB d x C) t = bval C t := by
 unfold bval
 rw [gvGet_set, if_neg]
 intro e; subst e; simp [dstOk, ht] at h
theorem holdB_set {d : Option Nat} {x : GV} {C : Gm} {u : List Nat} (h : dstOk d u = true) {π : List (Nat × Bool)} (hπ : ∀ l ∈ π, l.1 ∈ u) : holdB (gsetB d x C) π ↔ holdB C π := by
 constructor
 ·intro hh l hl; rw [← bval_set h (hπ l hl)]; exact hh l hl
 ·intro hh l hl; rw [bval_set h (hπ l hl)]; exact hh l hl
theorem RelB.setv {u u' : List Nat} {C : Gm} {T : Tm} (hr : RelB u C T) (hu : ∀ t ∈ u, t ∈ u') {d : Option Nat} (hd : dstOk d u' = true) (v : AV) : RelB u' (gsetB d (.v v) C) (tset d v T) := by
 refine ⟨fun t a h => ?_, fun t π a h => ?_⟩
 ·rw [gvGet_set] at h; rw [tget_set]
  split at h
  ·rename_i e; rw [if_pos e]; cases h; rfl
  ·rename_i e; rw [if_neg e]; exact hr.v t a h
 ·rw [gvGet_set] at h; rw [tget_set]
  split at h
  ·cases h
  ·rename_i e; rw [if_neg e]
   obtain ⟨h1, h2, h3⟩ := hr.c t π a h
   have h1' : ∀ l ∈ π, l.1 ∈ u' := fun l hl => hu _ (h1 l hl)
   exact ⟨h1', fun hh => h2 ((holdB_set hd h1').1 hh), fun hh => h3 (fun x => hh ((holdB_set hd h1').2 x))⟩
theorem RelB.setc {u u' : List Nat} {C : Gm} {T : Tm} (hr : RelB u C T) (hu : ∀ t ∈ u, t ∈ u') {d : Option Nat} (hd : dstOk d u' = true) {π : List (Nat × Bool)} (hπ : ∀ l ∈ π, l.1 ∈ u') (v w : AV)
  (hv : (holdB C π → w = v) ∧ (¬ holdB C π → w = .tup [])) : RelB u' (gsetB d (.c π v) C) (tset d w T) := by
 refine ⟨fun t a h => ?_, fun t π' a h => ?_⟩
 ·rw [gvGet_set] at h; rw [tget_set]
  split at h
  ·cases h
  ·rename_i e; rw [if_neg e]; exact hr.v t a h
 ·rw [gvGet_set] at h; rw [tget_set]
  split at h
  ·rename_i e; rw [if_pos e]; cases h
   exact ⟨hπ, fun hh => hv.1 ((holdB_set hd hπ).1 hh), fun hh => hv.2 (fun x => hh ((holdB_set hd hπ).2 x))⟩
  ·rename_i e; rw [if_neg e]
   obtain ⟨h1, h2, h3⟩ := hr.c t π' a h
   have h1' : ∀ l ∈ π', l.1 ∈ u' := fun l hl => hu _ (h1 l hl)
   exact ⟨h1', fun hh => h2 ((holdB_set hd h1').1 hh), fun hh => h3 (fun x => hh ((holdB_set hd h1').2 x))⟩
theorem conj_app {a b : List Prop} : conj (a ++ b) ↔ conj a ∧ conj b := by
 induction a with
 | nil => simp [conj]
 | cons x r ih => simp only [List.cons_append, conj, ih, and_assoc]
theorem gq_hold {C : Gm} {π : List (Nat × Bool)} {q : Prop} (h : gq C π q) (hh : holdB C π) : q := by
 induction π with
 | nil => exact h
 | cons l r ih => exact ih (h (hh l (by simp))) (fun m hm => hh m (by simp [hm]))
theorem conj_gq {C : Gm} {π : List (Nat × Bool)} {ns : List Prop} (h : conj (ns.map (gq C π))) (hh : holdB C π) : conj ns := by
 induction ns with
 | nil => trivial
 | cons q r ih => exact ⟨gq_hold h.1 hh, ih h.2⟩
theorem effO_obj (e : Eff) : effO e (effObj e) = e := by cases e <;> rfl
theorem stepB_sound {P : Program} {p : Id} {n : Nat} {H H1 : Hp} {o : Ora} {d : Option Nat} {T : Tm} {K : Tm → Hp → Nat → Prop} : ∀ {r : Res} {ns : List Prop} {v : AV} {x : XE}, stepB P H (n :: p) o r = some (ns, v, x) → x.app H (n :: p) = some H1 → conj ns → K (tset d v T) H1 (n + 1) → evr P p d T H n K r := by
 intro r
 induction r with
 | need q r ih =>
  intro ns v x h hx hc hk
  simp only [stepB] at h
  split at h
  ·rename_i ns' v' x' e
   cases h
   exact ⟨hc.1, ih e hx hc.2 hk⟩
  ·cases h
 | val v0 e0 =>
  intro ns v x h hx hc hk
  cases o <;> simp only [stepB, Option.some.injEq, Prod.mk.injEq, reduceCtorEq] at h
  ·obtain ⟨rfl, rfl, rfl⟩ := h; cases hx; exact hk
  ·obtain ⟨rfl, rfl, rfl⟩ := h; cases hx
   have e1 := hc.1; subst e1; exact hk
  ·obtain ⟨rfl, rfl, rfl⟩ := h; cases hx
   have e1 := hc.1; have e2 := hc.2.1; subst e1 e2
   simp only [effO_obj] at hk; exact hk
 | call f args =>
  intro ns v x h hx hc hk
  cases o <;> simp only [stepB, Option.some.injEq, Prod.mk.injEq, reduceCtorEq] at h
  ·obtain ⟨rfl, rfl, rfl⟩ := h; cases hx; exact callK_pure hc.1 hk
  ·obtain ⟨rfl, rfl, rfl⟩ := h; cases hx
   exact callK_at hc.1 (fun v1 H1 ⟨e1, e2⟩ => by subst e1 e2; exact hk)
  ·obtain ⟨rfl, rfl, rfl⟩ := h; cases hx; exact callK_frz hc.1 hc.2.1 hk
  ·obtain ⟨rfl, rfl, rfl⟩ := h; cases hx
  ·obtain ⟨rfl, rfl, rfl⟩ := h; cases hx; exact callK_at (hc.1 H _ (fun _ _ h => h)) (fun v1 H1 ⟨e1, e2⟩ => by subst e1 e2; exact hk)
 | yld i args =>
  intro ns v x h hx hc hk
  cases o <;> simp only [stepB, Option.some.injEq, Prod.mk.injEq, reduceCtorEq] at h
  obtain ⟨rfl, rfl, rfl⟩ := h; cases hx
  exact ⟨_, hc.1, fun v1 H1 ⟨e1, e2⟩ => by subst e1 e2; exact hk⟩
 | fail => intro ns v x h; simp [stepB] at h
theorem pickV_eq (c : Bool) (x y : AV) : pickV c x y = bif c then x else y := by
 unfold pickV
 split
 ·cases c <;> rfl
 ·split
  ·rename_i e; subst e; cases c <;> rfl
  ·rfl
 ·cases c <;> rfl
 ·rfl
theorem evo_lowB {u : List Nat} {C : Gm} {T : Tm} {π : List (Nat × Bool)} (hr : RelB u C T) (hh : holdB C π) {x : Operand} (h : (opTmps (.move x)).all (rdable C π) = true) : evo (lowB π C) x = evo T x := by
 have : evOp default (lowB π C) [] [] (.move x) = evOp default T [] [] (.move x) := evOp_congr fun t ht => rdable_eq hr hh (List.all_eq_true.1 h t ht)
 simp only [evOp, Res.val.injEq, and_true] at this
 exact this
theorem guardB_hold {C : Gm} {u : List Nat} {T : Tm} {t : Nat} {b : Bool} {π : List (Nat × Bool)} (hr : RelB u C T) (h : guardB C (some (t, b)) = some π) :
  (∀ l ∈ π, l.1 ∈ guardU (some (t, b)) u) ∧ ((holdB C π ∧ tget T t = .tv (.bool b)) ∨ (¬ holdB C π ∧ (tget T t = .tv (.bool !b) ∨ tget T t = .tup []))) := by
 unfold guardB at h
 simp only at h
 split at h
 ·rename_i c e
  cases h
  refine ⟨fun l hl => by simp at hl; subst hl; simp [guardU], ?_⟩
  have ht := hr.v t _ e
  have hb : bval C t = c := by unfold bval; rw [e]; rfl
  by_cases hc : c = b
  ·subst hc; exact .inl ⟨fun l hl => by simp at hl; subst hl; exact hb, ht⟩
  ·refine .inr ⟨fun hh => hc (by rw [← hb]; exact hh (t, b) (by simp)), .inl ?_⟩
   rw [ht]; cases c <;> cases b <;> simp_all
 ·rename_i π0 c e
  cases h
  obtain ⟨h1, h2, h3⟩ := hr.c t _ _ e
  have hb : bval C t = c := by unfold bval; rw [e]; rfl
  refine ⟨fun l hl => by
   simp at hl
   rcases hl with rfl | hl
   ·simp [guardU]
   ·simp [guardU]; exact .inr (h1 l hl), ?_⟩
  by_cases hh0 : holdB C π0
  ·have ht := h2 hh0
   by_cases hc : c = b
   ·subst hc
    exact .inl ⟨fun l hl => by
     simp at hl
     rcases hl with rfl | hl
     ·exact hb
     ·exact hh0 l hl, ht⟩
   ·refine .inr ⟨fun hh => hc (by rw [← hb]; exact hh (t, b) (by simp)), .inl ?_⟩
    rw [ht]; cases c <;> cases b <;> simp_all
  ·exact .inr ⟨fun hh => hh0 (fun l hl => hh l (by simp [hl])), .inr (h3 hh0)⟩
 ·cases h
/-- An operation's result comes to v and x. -/
def StepTo (P : Program) (H : Hp) (id : Id) (r : Res) (v : AV) (x : XE) : Prop := ∃ o ns, stepB P H id o r = some (ns, v, x) ∧ conj ns
theorem StepTo.res {P : Program} {H : Hp} {id : Id} {r : Res} {v : AV} {e : Eff} (h : (∃ q, r = .need q (.val v e) ∧ q) ∨ r = .val v e) : StepTo P H id r v (.e e) := by
 rcases h with ⟨q, rfl, hq⟩ | rfl
 ·exact ⟨.std, [q], rfl, hq, trivial⟩
 ·exact ⟨.std, [], rfl, trivial⟩
/-- What an operation's evaluation yields. -/
structure OpB (P : Program) (C : Gm) (H : Hp) (id : Id) (op : Op) (g : Option (Nat × Bool)) (u u' : List Nat) (ns : List Prop) (x : GV) (e : XE) : Prop where
 le : ∀ t ∈ u, t ∈ u'
 run : ∀ T, RelB u C T → conj ns → match g with
  | none => ∃ v, x = .v v ∧ StepTo P H id (evOp P T H id op) v e
  | some (t, b) => ∃ v π, x = .c π v ∧ e = .e .no ∧ (∀ l ∈ π, l.1 ∈ u') ∧ ((holdB C π ∧ tget T t = .tv (.bool b) ∧ StepTo P H id (evOp P T H id op) v (.e .no)) ∨
    (¬ holdB C π ∧ (tget T t = .tv (.bool !b) ∨ tget T t = .tup [])))
theorem guardU_le (g : Option (Nat × Bool)) (u : List Nat) : ∀ t ∈ u, t ∈ guardU g u := by
 intro t ht
 cases g with
 | none => exact ht
 | some tb => simp [guardU, ht]
theorem opB_pick {P : Program} {C : Gm} {H : Hp} {id : Id} {y a b : Operand} {g : Option (Nat × Bool)} {u u' : List Nat} {o : Ora} {ns : List Prop} {x : GV} {e : XE} (h : opB P C H id (.pick y a b) g u o = some (u', ns, x, e)) : OpB P C H id (.pick y a b) g u u' ns x e := by
 unfold opB at h
 cases hg : guardB C g with
 | none => rw [hg] at h; cases h
 | some π =>
  rw [hg] at h
  cases y with
  | tmp y =>
   simp only at h
   split at h
   ·cases h
   ·rename_i hrd
    simp only [Bool.and_eq_true] at hrd
    obtain ⟨⟨hry, hra⟩, hrb⟩ := hrd
    split at h
    ·rename_i c hc
     cases h
     have hbv : bval C y = c := by unfold bval; rw [hc]
     have key : ∀ T, RelB u C T → holdB C π → StepTo P H id (evOp P T H id (.pick (.tmp y) a b)) (pickV c (evo (lowB ((y, true) :: π) C) a) (evo (lowB ((y, false) :: π) C) b)) (.e .no) := by
      intro T hr hh
      have hy := rdable_val hr hh hry
      rw [hc] at hy
      have hev : evOp P T H id (.pick (.tmp y) a b) = .val (bif c then evo T a else evo T b) .no := by
       show evPick (tget T y) (evo T a) (evo T b) = _
       rw [hy]; rfl
      rw [hev, pickV_eq]
      cases c with
      | true =>
       rw [evo_lowB hr (x := a) (π := (y, true) :: π) (fun l hl => by
        simp at hl
        rcases hl with rfl | hl
        ·exact hbv
        ·exact hh l hl) hra]
       exact ⟨.std, [], rfl, trivial⟩
      | false =>
       rw [evo_lowB hr (x := b) (π := (y, false) :: π) (fun l hl => by
        simp at hl
        rcases hl with rfl | hl
        ·exact hbv
        ·exact hh l hl) hrb]
       exact ⟨.std, [], rfl, trivial⟩
     refine ⟨fun t ht => by simp; exact .inr (guardU_le g u t ht), fun T hr _ => ?_⟩
     cases g with
     | none =>
      cases hg
      exact ⟨_, rfl, key T hr (fun l hl => by simp at hl)⟩
     | some tb =>
      obtain ⟨t, b'⟩ := tb
      obtain ⟨h1, h2⟩ := guardB_hold hr hg
      refine ⟨_, π, rfl, rfl, fun l hl => by simp; exact .inr (h1 l hl), ?_⟩
      rcases h2 with ⟨hh, ht⟩ | hn
      ·exact .inl ⟨hh, ht, key T hr hh⟩
      ·exact .inr hn
    ·cases h
  | _ => simp at h
theorem opB_rest {P : Program} {C : Gm} {H : Hp} {id : Id} {op : Op} {g : Option (Nat × Bool)} {u u' : List Nat} {o : Ora} {ns : List Prop} {x : GV} {e : XE} {π : List (Nat × Bool)} (hg : guardB C g = some π)
  (h : restB P C H id op g u o π = some (u', ns, x, e)) : OpB P C H id op g u u' ns x e := by
 unfold restB at h
 split at h
 ·cases h
 ·rename_i hrd
  have hev : ∀ T, RelB u C T → holdB C π → evOp P (lowB π C) H id op = evOp P T H id op := fun T hr hh => evOp_congr fun t ht => rdable_eq hr hh (List.all_eq_true.1 hrd t ht)
  split at h
  ·rename_i r v e0
   cases g with
   | some tb => cases h
   | none =>
    cases h; cases hg
    refine ⟨fun t ht => ht, fun T hr hc => ⟨_, rfl, ?_⟩⟩
    rw [← hev T hr (fun l hl => by simp at hl)]
    have h1 := hc.1
    rw [h1]
    exact StepTo.res hc.2.1
  ·split at h
   ·rename_i ns0 v x0 hst
    cases g with
    | none =>
     cases h; cases hg
     refine ⟨fun t ht => ht, fun T hr hc => ⟨_, rfl, ?_⟩⟩
     rw [hev T hr (fun l hl => by simp at hl)] at hst
     exact ⟨_, _, hst, hc⟩
    | some tb =>
     obtain ⟨t, b⟩ := tb
     simp only at h
     split at h
     ·cases h
      refine ⟨guardU_le _ _, fun T hr hc => ?_⟩
      obtain ⟨h1, h2⟩ := guardB_hold hr hg
      refine ⟨_, π, rfl, rfl, h1, ?_⟩
      rcases h2 with ⟨hh, ht⟩ | hn
      ·refine .inl ⟨hh, ht, ?_⟩
       rw [hev T hr hh] at hst
       exact ⟨_, _, hst, conj_gq hc hh⟩
      ·exact .inr hn
     ·cases h
   ·cases h
theorem opB_sound {P : Program} {C : Gm} {H : Hp} {id : Id} {op : Op} {g : Option (Nat × Bool)} {u u' : List Nat} {o : Ora} {ns : List Prop} {x : GV} {e : XE} (h : opB P C H id op g u o = some (u', ns, x, e)) : OpB P C H id op g u u' ns x e := by
 by_cases hp : ∃ y a b, op = .pick y a b
 ·obtain ⟨y, a, b, rfl⟩ := hp; exact opB_pick h
 ·unfold opB at h
  cases hg : guardB C g with
  | none => rw [hg] at h; cases h
  | some π =>
   rw [hg] at h
   refine opB_rest (o := o) hg ?_
   cases op <;> first | (exact absurd ⟨_, _, _, rfl⟩ hp) | exact h
theorem StepTo.evr {P : Program} {p : Id} {n : Nat} {H H1 : Hp} {d : Option Nat} {T : Tm} {K : Tm → Hp → Nat → Prop} {r : Res} {v : AV} {x : XE} (h : StepTo P H (n :: p) r v x) (hx : x.app H (n :: p) = some H1) (hk : K (tset d v T) H1 (n + 1)) : Go.Proofs.YtphmhelkojdlaaaDoor.evr P p d T H n K r := by
 obtain ⟨o, ns, h1, h2⟩ := h
 exact stepB_sound h1 hx h2 hk
theorem evB_evs {P : Program} {p : Id} {K : Tm → Hp → Nat → Prop} : ∀ {os : List SOp} {ors : List Ora} {u : List Nat} {C C' : Gm} {T : Tm} {H H' : Hp} {n n' : Nat} {ns : List Prop}, RelB u C T →
  evB P p os ors u C H n = some (ns, C', H', n') → conj ns → (∀ u' T', RelB u' C' T' → K T' H' n') → evs P p os T H n K := by
 intro os
 induction os with
 | nil =>
  intro ors u C C' T H H' n n' ns hr h _ hk
  simp only [evB, Option.some.injEq, Prod.mk.injEq] at h
  obtain ⟨_, rfl, rfl, rfl⟩ := h
  exact hk u T hr
 | cons so os ih =>
  intro ors u C C' T H H' n n' ns hr h hc hk
  obtain ⟨d, op, g⟩ := so
  simp only [evB] at h
  split at h
  ·cases h
  ·rename_i u' ns1 x e ho
   split at h
   ·cases h
   ·rename_i hd
    split at h
    ·cases h
    ·rename_i H1 hx
     split at h
     ·rename_i ns2 C2 H2 n2 hrest
      simp only [Option.some.injEq, Prod.mk.injEq] at h
      obtain ⟨rfl, rfl, rfl, rfl⟩ := h
      obtain ⟨hc1, hc2⟩ := conj_app.1 hc
      have hop := opB_sound ho
      have hrun := hop.run T hr hc1
      cases g with
      | none =>
       obtain ⟨v, rfl, hrun⟩ := hrun
       exact hrun.evr hx (ih (hr.setv hop.le hd v) hrest hc2 hk)
      | some tb =>
       obtain ⟨t, b⟩ := tb
       obtain ⟨v, π, rfl, rfl, hπ, hrun⟩ := hrun
       cases hx
       simp only [evs]
       rcases hrun with ⟨hh, ht, hrun⟩ | ⟨hn, ht⟩
       ·rw [ht]
        refine ⟨fun _ => hrun.evr rfl (ih (hr.setc hop.le hd hπ v v ⟨fun _ => rfl, fun hn => absurd hh hn⟩) hrest hc2 hk), fun e => by cases b <;> cases e⟩
       ·have hsk := ih (hr.setc hop.le hd hπ v (.tup []) ⟨fun hh => absurd hh hn, fun _ => rfl⟩) hrest hc2 hk
        rcases ht with ht | ht
        ·rw [ht]; exact ⟨fun e => (by cases b <;> cases e), fun _ => hsk⟩
        ·rw [ht]; exact hsk
     ·cases h
theorem Gh.gkeep {u : List Nat} {C : Gm} {T : Tm} (hr : RelB u C T) (hd : ∀ π a, gvGet C 1000000 ≠ .c π a) (l : List Nat) (H : Hp) (p : Id) (n : Nat) : Gh ⟨T, H, p, n⟩ ⟨gkeep l C, H, p, n⟩ := by
 have h0 : tget T 1000000 = gvVal (gvGet C 1000000) := by
  cases hc : gvGet C 1000000 with
  | v a => exact hr.v _ a hc
  | c π a => exact absurd hc (hd π a)
 refine Gh.less (fun t => ?_) ?_ (fun _ _ h => h) (Nat.le_refl _)
 ·simp only [Go.Proofs.YtphmhelkojdlaaaDoor.gkeep, tget]
  split
  ·rename_i e; subst e; exact .inl h0.symm
  ·induction l with
   | nil => exact .inr rfl
   | cons k l ih =>
    simp only [List.map_cons, tget]
    split
    ·rename_i e; subst e
     cases hc : gvGet C k with
     | v a => exact .inl (hr.v _ a hc).symm
     | c g a => exact .inr rfl
    ·exact ih
 ·simp only [Go.Proofs.YtphmhelkojdlaaaDoor.gkeep, tget, if_true]
  exact h0.symm
theorem slims_dst {ops : Array Oper} {nt : Nat} : ∀ {l : List Oper} {os : List SOp}, l.all (operOk nt) = true → slims ops l = some os → ∀ o ∈ os, ∀ d, o.dst = some d → d < nt := by
 intro l
 induction l with
 | nil => intro os _ h o ho; simp [slims] at h; subst h; simp at ho
 | cons x l ih =>
  intro os hall h o ho d hd
  simp only [slims] at h
  simp only [List.all_cons, Bool.and_eq_true] at hall
  cases hx : slimOp ops x with
  | none => rw [hx] at h; simp at h
  | some y =>
   cases hm : slims ops l with
   | none => rw [hx, hm] at h; simp at h
   | some r =>
    rw [hx, hm] at h; simp at h; subst h
    simp at ho
    rcases ho with rfl | ho
    ·have h1 := hall.1
     simp only [operOk, Bool.and_eq_true] at h1
     have h2 := h1.1.2
     have : x.dst = o.dst := by
      unfold slimOp at hx
      split at hx
      ·cases hx; rfl
      ·split at hx
       ·cases hx; rfl
       ·cases hx
     rw [this, hd] at h2
     simpa using h2
    ·exact ih hall.2 hm o ho d hd
theorem evB_keep {P : Program} {p : Id} {nt : Nat} (hnt : nt ≤ 1000000) : ∀ {os : List SOp} {ors : List Ora} {u : List Nat} {C C' : Gm} {H H' : Hp} {n n' : Nat} {ns : List Prop}, (∀ o ∈ os, ∀ d, o.dst = some d → d < nt) →
  evB P p os ors u C H n = some (ns, C', H', n') → gvGet C' 1000000 = gvGet C 1000000 := by
 intro os
 induction os with
 | nil =>
  intro ors u C C' H H' n n' ns _ h
  simp only [evB, Option.some.injEq, Prod.mk.injEq] at h
  obtain ⟨_, rfl, _⟩ := h; rfl
 | cons so os ih =>
  intro ors u C C' H H' n n' ns hd h
  obtain ⟨d, op, g⟩ := so
  simp only [evB] at h
  split at h
  ·cases h
  ·split at h
   ·cases h
   ·split at h
    ·cases h
    ·split at h
     ·rename_i hrest
      cases h
      rw [ih (fun o ho => hd o (by simp [ho])) hrest, gvGet_set, if_neg]
      intro e
      have := hd ⟨d, op, g⟩ (by simp) 1000000 e
      omega
     ·cases h
theorem slim_all {nt : Nat} {ops : Array Oper} {os : List SOp} (h : slim nt ops = some os) : ops.toList.all (operOk nt) = true ∧ slims ops ops.toList = some os := by
 unfold slim at h
 split at h
 ·rename_i hall; exact ⟨hall, h⟩
 ·cases h
theorem at_B {E : En} {Q : Exit → St → Prop} {id : Nat} {ops : Array Oper} {d : Code} {T : Tm} {H : Hp} {p : Id} {n : Nat} (l : List Nat) (ors : List Ora) (ns : List Prop) (T1 : Tm) (H1 : Hp) (n1 : Nat)
  (h : regB E.nt E.P p ops ors l T H n = some (ns, T1, H1, n1)) (hc : conj ns) (hk : AT E d Q ⟨T1, H1, p, n1⟩) : AT E (.seq (.region id ops false) d) Q ⟨T, H, p, n⟩ := by
 refine at_fact (E.nt ≤ 1000000) (fun _ _ _ _ _ _ _ _ ⟨_, _, hs⟩ => hs.nk) fun hnk => ?_
 unfold regB at h
 split at h
 ·cases h
 ·rename_i os hsl
  split at h
  ·rename_i ns' C H' n' hev
   cases h
   have hkeep := evB_keep hnk (slims_dst (slim_all hsl).1 (slim_all hsl).2) hev
   refine at_seq (at_region hsl (evB_evs (RelB.up T) hev hc (fun u' T' hr => at_pre (Gh.gkeep hr (fun π a => by rw [hkeep, gvGet_upB]; exact fun e => by cases e) l H1 p n1) hk)))
  ·cases h
theorem at_Bl {E : En} {Q : Exit → St → Prop} {id : Nat} {ops : Array Oper} {T : Tm} {H : Hp} {p : Id} {n : Nat} (l : List Nat) (ors : List Ora) (ns : List Prop) (T1 : Tm) (H1 : Hp) (n1 : Nat)
  (h : regB E.nt E.P p ops ors l T H n = some (ns, T1, H1, n1)) (hc : conj ns) (hk : Q .normal ⟨T1, H1, p, n1⟩) : AT E (.region id ops false) Q ⟨T, H, p, n⟩ := by
 have := at_B (d := .skip) (Q := Q) (id := id) l ors ns T1 H1 n1 h hc (at_skip hk)
 intro B w0 σ0 ι0 q ds a w hs
 refine at_fact (E.nt ≤ 1000000) (fun _ _ _ _ _ _ _ _ ⟨_, _, hs⟩ => hs.nk) (fun hnk => ?_) B w0 σ0 ι0 q ds a w hs
 unfold regB at h
 split at h
 ·cases h
 ·rename_i os hsl
  split at h
  ·rename_i ns' C H' n' hev
   cases h
   have hkeep := evB_keep hnk (slims_dst (slim_all hsl).1 (slim_all hsl).2) hev
   refine at_post (Q' := fun e s => e = .normal ∧ Gh s ⟨gkeep l C, H1, p, n1⟩) (at_region hsl (evB_evs (RelB.up T) hev hc (fun u' T' hr => ⟨rfl, Gh.gkeep hr (fun π a => by rw [hkeep, gvGet_upB]; exact fun e => by cases e) l H1 p n1⟩))) ?_
   rintro e s ⟨rfl, hg⟩
   exact ⟨_, hg, hk⟩
  ·cases h
end Go.Proofs.YtphmhelkojdlaaaDoor
namespace Go.Proofs.YtphmhelkojdlaaaDoor
open Go.RowKit
set_option linter.unusedSimpArgs false
set_option linter.unusedVariables false
def clrB (xs : List Id) (H : Hp) : Bool := xs.all fun x => (hget H x).isNone
def notInB (x : Id) (xs : List Id) : Bool := xs.all fun y => !decide (y = x)
def clrEB (p : Id) (n0 m : Nat) (id : Id) (H : Hp) : List (Nat × Eff) → Bool
 | [] => true
 | (j, e) :: r => (m.testBit j || clrB (wrs e ((n0 + j) :: p)) H) && notInB id (wrs e ((n0 + j) :: p)) && clrEB p n0 m id H r
def clrUB (m : Nat) (xs : List Id) : List (Nat × Hp) → Bool
 | [] => true
 | (j, H) :: r => (m.testBit j || clrB xs H) && clrUB m xs r
def oldInB (e : Eff) (H : Hp) : Bool := match e with
 | .upd i _ => (hget H i).isSome
 | .repl i _ => (hget H i).isSome
 | _ => true
def XE.eff : XE → Option Eff
 | XE.e y => some y
 | XE.h _ => none
 | .f i o => some (.upd i o)
def evDB (P : Program) (p : Id) (n0 : Nat) (rs : List (Option (List Id))) (H0 : Hp) : List SOp → List Ora → List Nat → List Nat → Nat → Gm → List (Nat × Eff) → List (Nat × Hp) → Option (List Prop × Gm × Hp × Nat)
 | [], _, _, _, k, C, E, _ => some ([], C, hovA p n0 H0 E, n0 + k)
 | _ :: _, _, [], _, _, _, _, _ => none
 | ⟨d, op, g⟩ :: os, ors, m :: ms, u, k, C, E, U =>
  match clrEB p n0 m ((n0 + k) :: p) (bif usesH op then rst (rs.getD k none) (hovL p n0 m H0 E) else []) E with
  | false => none
  | true => match opB P C (bif usesH op then rst (rs.getD k none) (hovL p n0 m H0 E) else []) ((n0 + k) :: p) op g u (ors.headD .std) with
   | none => none
   | some (u', ns, x, xe) => match dstOk d u' with
    | false => none
    | true => match xe.eff with
     | none => none
     | some e => match oldInB e (bif usesH op then rst (rs.getD k none) (hovL p n0 m H0 E) else []) && clrUB m (wrs e ((n0 + k) :: p)) U with
      | false => none
      | true => match evDB P p n0 rs H0 os ors.tail ms u' (k + 1) (gsetB d x C) (eadd k e E) (bif usesH op then U ++ [(k, rst (rs.getD k none) (hovL p n0 m H0 E))] else U) with
       | some (ns2, C', H', n') => some (ns ++ ns2, C', H', n')
       | none => none
def regDB (nt : Nat) (P : Program) (p : Id) (ops : Array Oper) (rs : List (Option (List Id))) (ms : List Nat) (ors : List Ora) (l : List Nat) (T : Tm) (H : Hp) (n : Nat) : Option (List Prop × Tm × Hp × Nat) := match slim nt ops with
 | none => none
 | some os => match drawOk ops os ms && P.follows .mixedOrders with
  | false => none
  | true => match evDB P p n rs H os ors ms [] 0 (upB T) [] [] with
   | some (ns, C, H', n') => some (ns, gkeep l C, H', n')
   | none => none
theorem clrB_ok {xs : List Id} {H : Hp} (h : clrB xs H = true) : clr xs H := by
 induction xs with
 | nil => trivial
 | cons x r ih =>
  simp only [clrB, List.all_cons, Bool.and_eq_true, Option.isNone_iff_eq_none] at h
  exact ⟨h.1, ih h.2⟩
theorem notInB_ok {x : Id} {xs : List Id} (h : notInB x xs = true) : notIn x xs := by
 induction xs with
 | nil => trivial
 | cons y r ih =>
  simp only [notInB, List.all_cons, Bool.and_eq_true, Bool.not_eq_true', decide_eq_false_iff_not] at h
  exact ⟨eq_false h.1, ih h.2⟩
theorem clrEB_ok {p : Id} {n0 m : Nat} {id : Id} {H : Hp} {E : List (Nat × Eff)} (h : clrEB p n0 m id H E = true) : clrE p n0 m id H E := by
 induction E with
 | nil => trivial
 | cons x r ih =>
  obtain ⟨j, e⟩ := x
  simp only [clrEB, Bool.and_eq_true] at h
  refine ⟨?_, notInB_ok h.1.2, ih h.2⟩
  have h1 := h.1.1
  cases hm : m.testBit j with
  | true => trivial
  | false => rw [hm] at h1; exact clrB_ok (by simpa using h1)
theorem clrUB_ok {m : Nat} {xs : List Id} {U : List (Nat × Hp)} (h : clrUB m xs U = true) : clrU m xs U := by
 induction U with
 | nil => trivial
 | cons x r ih =>
  obtain ⟨j, H⟩ := x
  simp only [clrUB, Bool.and_eq_true] at h
  refine ⟨?_, ih h.2⟩
  have h1 := h.1
  cases hm : m.testBit j with
  | true => trivial
  | false => rw [hm] at h1; exact clrB_ok (by simpa using h1)
theorem oldInB_ok {e : Eff} {H : Hp} (h : oldInB e H = true) : oldIn e H := by
 cases e <;> first | trivial | exact h
theorem stepD {P : Program} {H : Hp} {id : Id} {o : Ora} {K : AV → Eff → Prop} : ∀ {r : Res} {ns : List Prop} {v : AV} {x : XE} {e : Eff}, stepB P H id o r = some (ns, v, x) → x.eff = some e → conj ns → K v e → evdR P H K r := by
 intro r
 induction r with
 | need q r ih =>
  intro ns v x e h hx hc hk
  simp only [stepB] at h
  split at h
  ·rename_i ns' v' x' e'
   cases h
   exact ⟨hc.1, ih e' hx hc.2 hk⟩
  ·cases h
 | val v0 e0 =>
  intro ns v x e h hx hc hk
  cases o <;> simp only [stepB, Option.some.injEq, Prod.mk.injEq, reduceCtorEq] at h
  ·obtain ⟨rfl, rfl, rfl⟩ := h; cases hx; exact hk
  ·obtain ⟨rfl, rfl, rfl⟩ := h; cases hx
   have e1 := hc.1; subst e1; exact hk
  ·obtain ⟨rfl, rfl, rfl⟩ := h; cases hx
   have e1 := hc.1; have e2 := hc.2.1; subst e1 e2
   simp only [effO_obj] at hk; exact hk
 | call f args =>
  intro ns v x e h hx hc hk
  cases o <;> simp only [stepB, Option.some.injEq, Prod.mk.injEq, reduceCtorEq] at h
  ·obtain ⟨rfl, rfl, rfl⟩ := h; cases hx; exact .inl ⟨_, hc.1.stab _, hk⟩
  ·obtain ⟨rfl, rfl, rfl⟩ := h; cases hx
  ·obtain ⟨rfl, rfl, rfl⟩ := h; cases hx
  ·obtain ⟨rfl, rfl, rfl⟩ := h; cases hx
   obtain ⟨h1, h2, _⟩ := hc
   exact .inr ⟨_, _, _, _, h1, h2, hk⟩
  ·obtain ⟨rfl, rfl, rfl⟩ := h; cases hx; exact .inl ⟨_, hc.1, hk⟩
 | yld i args =>
  intro ns v x e h hx hc hk
  cases o <;> simp only [stepB, Option.some.injEq, Prod.mk.injEq, reduceCtorEq] at h
  obtain ⟨rfl, rfl, rfl⟩ := h; cases hx
 | fail => intro ns v x e h; simp [stepB] at h
theorem evDB_evd {P : Program} {p : Id} {n0 : Nat} {rs : List (Option (List Id))} {H0 : Hp} {K : Tm → Hp → Nat → Prop} : ∀ {os : List SOp} {ors : List Ora} {ms u : List Nat} {k : Nat} {C C' : Gm} {T : Tm} {H' : Hp} {E : List (Nat × Eff)} {U U' : List (Nat × Hp)} {n' : Nat} {ns : List Prop}, RelB u C T → (∀ x ∈ U, x ∈ U') →
  evDB P p n0 rs H0 os ors ms u k C E U' = some (ns, C', H', n') → conj ns → (∀ u' T', RelB u' C' T' → K T' H' n') → evd P p n0 rs H0 os ms k T E U K := by
 intro os
 induction os with
 | nil =>
  intro ors ms u k C C' T H' E U U' n' ns hr _ h _ hk
  simp only [evDB, Option.some.injEq, Prod.mk.injEq] at h
  obtain ⟨_, rfl, rfl, rfl⟩ := h
  exact hk u T hr
 | cons so os ih =>
  intro ors ms u k C C' T H' E U U' n' ns hr hU h hc hk
  obtain ⟨d, op, g⟩ := so
  cases ms with
  | nil => simp [evDB] at h
  | cons m ms =>
   simp only [evDB] at h
   split at h
   ·cases h
   ·rename_i hce
    split at h
    ·cases h
    ·rename_i u' ns1 x xe ho
     split at h
     ·cases h
     ·rename_i hd
      split at h
      ·cases h
      ·rename_i e hxe
       split at h
       ·cases h
       ·rename_i hcu
        split at h
        ·rename_i ns2 C2 H2 n2 hrest
         simp only [Option.some.injEq, Prod.mk.injEq] at h
         obtain ⟨rfl, rfl, rfl, rfl⟩ := h
         obtain ⟨hc1, hc2⟩ := conj_app.1 hc
         simp only [Bool.and_eq_true] at hcu
         have hce := clrEB_ok hce
         have hold := oldInB_ok hcu.1
         have hcl := clrU_sub hU (clrUB_ok hcu.2)
         have hUc : ∀ (c : Bool) (x : Nat × Hp), ∀ y ∈ (bif c then U ++ [x] else U), y ∈ (bif c then U' ++ [x] else U') := by
          intro c x y hy
          cases c
          ·exact hU y hy
          ·simp at hy ⊢
           exact hy.imp (hU y) id
         have hUs : ∀ (c : Bool) (x : Nat × Hp), ∀ y ∈ U, y ∈ (bif c then U' ++ [x] else U') := by
          intro c x y hy
          cases c
          ·exact hU y hy
          ·simp; exact .inl (hU y hy)
         have hop := opB_sound ho
         have hrun := hop.run T hr hc1
         cases g with
         | none =>
          obtain ⟨v, rfl, o', ns', hs1, hs2⟩ := hrun
          simp only [evd]
          exact ⟨hce, stepD hs1 hxe hs2 ⟨hold, hcl, ih (hr.setv hop.le hd v) (hUc _ _) hrest hc2 hk⟩⟩
         | some tb =>
          obtain ⟨t, b⟩ := tb
          obtain ⟨v, π, rfl, rfl, hπ, hrun⟩ := hrun
          cases hxe
          simp only [evd]
          rcases hrun with ⟨hh, ht, o', ns', hs1, hs2⟩ | ⟨hn, ht⟩
          ·rw [ht]
           refine ⟨fun _ => ⟨hce, stepD hs1 rfl hs2 ⟨hold, hcl, ih (hr.setc hop.le hd hπ v v ⟨fun _ => rfl, fun hn => absurd hh hn⟩) (hUc _ _) hrest hc2 hk⟩⟩, fun e => by cases b <;> cases e⟩
          ·have hsk : evd P p n0 rs H0 os ms (k + 1) (tset d (.tup []) T) E U K := ih (hr.setc hop.le hd hπ v (.tup []) ⟨fun hh => absurd hh hn, fun _ => rfl⟩) (hUs _ _) hrest hc2 hk
           rcases ht with ht | ht
           ·rw [ht]; exact ⟨fun e => (by cases b <;> cases e), fun _ => hsk⟩
           ·rw [ht]; exact hsk
        ·cases h
theorem evDB_keep {P : Program} {p : Id} {n0 nt : Nat} {rs : List (Option (List Id))} {H0 : Hp} (hnt : nt ≤ 1000000) : ∀ {os : List SOp} {ors : List Ora} {ms u : List Nat} {k : Nat} {C C' : Gm} {H' : Hp} {E : List (Nat × Eff)} {U : List (Nat × Hp)} {n' : Nat} {ns : List Prop}, (∀ o ∈ os, ∀ d, o.dst = some d → d < nt) →
  evDB P p n0 rs H0 os ors ms u k C E U = some (ns, C', H', n') → gvGet C' 1000000 = gvGet C 1000000 := by
 intro os
 induction os with
 | nil =>
  intro ors ms u k C C' H' E U n' ns _ h
  simp only [evDB, Option.some.injEq, Prod.mk.injEq] at h
  obtain ⟨_, rfl, _⟩ := h; rfl
 | cons so os ih =>
  intro ors ms u k C C' H' E U n' ns hd h
  obtain ⟨d, op, g⟩ := so
  cases ms with
  | nil => simp [evDB] at h
  | cons m ms =>
   simp only [evDB] at h
   split at h
   ·cases h
   ·split at h
    ·cases h
    ·split at h
     ·cases h
     ·split at h
      ·cases h
      ·split at h
       ·cases h
       ·split at h
        ·rename_i hrest
         cases h
         rw [ih (fun o ho => hd o (by simp [ho])) hrest, gvGet_set, if_neg]
         intro e
         have := hd ⟨d, op, g⟩ (by simp) 1000000 e
         omega
        ·cases h
theorem regDB_evd {E : En} {Q : Exit → St → Prop} {id : Nat} {ops : Array Oper} {T : Tm} {H : Hp} {p : Id} {n : Nat} (rs : List (Option (List Id))) (ms l : List Nat) (ors : List Ora) (ns : List Prop) (T1 : Tm) (H1 : Hp) (n1 : Nat) (hnk : E.nt ≤ 1000000)
  (h : regDB E.nt E.P p ops rs ms ors l T H n = some (ns, T1, H1, n1)) (hc : conj ns) (hk : ∀ T', Gh ⟨T', H1, p, n1⟩ ⟨T1, H1, p, n1⟩ → Q .normal ⟨T', H1, p, n1⟩) : AT E (.region id ops true) Q ⟨T, H, p, n⟩ := by
 unfold regDB at h
 split at h
 ·cases h
 ·rename_i os hsl
  split at h
  ·cases h
  ·rename_i hok
   simp only [Bool.and_eq_true] at hok
   split at h
   ·rename_i ns' C H' n' hev
    cases h
    have hkeep := evDB_keep hnk (slims_dst (slim_all hsl).1 (slim_all hsl).2) hev
    exact at_draw ms hok.2 hsl hok.1 (evDB_evd (RelB.up T) (fun _ h => h) hev hc (fun u' T' hr => hk T' (Gh.gkeep hr (fun π a => by rw [hkeep, gvGet_upB]; exact fun e => by cases e) l H1 p n1)))
   ·cases h
theorem at_D {E : En} {Q : Exit → St → Prop} {id : Nat} {ops : Array Oper} {d : Code} {T : Tm} {H : Hp} {p : Id} {n : Nat} (rs : List (Option (List Id))) (ms l : List Nat) (ors : List Ora) (ns : List Prop) (T1 : Tm) (H1 : Hp) (n1 : Nat)
  (h : regDB E.nt E.P p ops rs ms ors l T H n = some (ns, T1, H1, n1)) (hc : conj ns) (hk : AT E d Q ⟨T1, H1, p, n1⟩) : AT E (.seq (.region id ops true) d) Q ⟨T, H, p, n⟩ :=
 at_fact (E.nt ≤ 1000000) (fun _ _ _ _ _ _ _ _ ⟨_, _, hs⟩ => hs.nk) fun hnk => at_seq (regDB_evd rs ms l ors ns T1 H1 n1 hnk h hc fun _ hg => at_pre hg hk)
theorem at_Dl {E : En} {Q : Exit → St → Prop} {id : Nat} {ops : Array Oper} {T : Tm} {H : Hp} {p : Id} {n : Nat} (rs : List (Option (List Id))) (ms l : List Nat) (ors : List Ora) (ns : List Prop) (T1 : Tm) (H1 : Hp) (n1 : Nat)
  (h : regDB E.nt E.P p ops rs ms ors l T H n = some (ns, T1, H1, n1)) (hc : conj ns) (hk : Q .normal ⟨T1, H1, p, n1⟩) : AT E (.region id ops true) Q ⟨T, H, p, n⟩ :=
 at_fact (E.nt ≤ 1000000) (fun _ _ _ _ _ _ _ _ ⟨_, _, hs⟩ => hs.nk) fun hnk =>
  at_post (Q' := fun e s => e = .normal ∧ Gh s ⟨T1, H1, p, n1⟩) (regDB_evd rs ms l ors ns T1 H1 n1 hnk h hc fun _ hg => ⟨rfl, hg⟩) (by rintro e s ⟨rfl, hg⟩; exact ⟨_, hg, hk⟩)

/-! ### Told less -/
def Le (v v' : AV) : Prop := ∀ σ ι u, VR σ ι v u → VR σ ι v' u
theorem Le.refl (v : AV) : Le v v := fun _ _ _ h => h
theorem Le.of_eq {v v' : AV} (h : v = v') : Le v v' := h ▸ Le.refl v
theorem Le.trans {a b c : AV} (h : Le a b) (k : Le b c) : Le a c := fun σ ι u x => k σ ι u (h σ ι u x)
theorem Le.nils (sz : Nat) : Le (.tv .nils) (.tv (.sli sz [])) := by
 intro σ ι u h
 cases h with
 | tv h => cases h; exact .tv (.sli (σ := σ) sz [] none 0 (fun _ _ => undef) (by simp) (by simp) (fun _ => rfl) (fun r hr => by simp at hr) (fun i j r c h => by simp at h) (fun a i j r c _ h => by simp at h))
def TLe (t t' : TV) : Prop := ∀ σ u, TR σ t u → TR σ t' u
theorem TLe.refl (t : TV) : TLe t t := fun _ _ h => h
theorem TLe.nils (sz : Nat) : TLe .nils (.sli sz []) := by
 intro σ u h
 cases h
 exact .sli (σ := σ) sz [] none 0 (fun _ _ => undef) (by simp) (by simp) (fun _ => rfl) (fun r hr => by simp at hr) (fun i j r c h => by simp at h) (fun a i j r c _ h => by simp at h)
inductive TLs : List TV → List TV → Prop
 | nil : TLs [] []
 | cons {t t' : TV} {r r' : List TV} (h : TLe t t') (hs : TLs r r') : TLs (t :: r) (t' :: r')
theorem TLs.refl : ∀ l : List TV, TLs l l
 | [] => .nil
 | t :: r => .cons (TLe.refl t) (TLs.refl r)
theorem TLs.length {l l' : List TV} (h : TLs l l') : l'.length = l.length := by
 induction h with
 | nil => rfl
 | cons _ _ ih => simp [ih]
theorem TLs.get {l l' : List TV} (h : TLs l l') : ∀ {j : Nat} {c : TV}, l'[j]? = some c → ∃ c0, l[j]? = some c0 ∧ TLe c0 c := by
 induction h with
 | nil => intro j c h; simp at h
 | cons hv _ ih =>
  intro j c h
  cases j with
  | zero => simp at h; subst h; exact ⟨_, rfl, hv⟩
  | succ j => simp at h; obtain ⟨c0, g1, g2⟩ := ih h; exact ⟨c0, by simpa using g1, g2⟩
inductive TRs : List (List TV) → List (List TV) → Prop
 | nil : TRs [] []
 | cons {t t' : List TV} {r r' : List (List TV)} (h : TLs t t') (hs : TRs r r') : TRs (t :: r) (t' :: r')
theorem TRs.length {l l' : List (List TV)} (h : TRs l l') : l'.length = l.length := by
 induction h with
 | nil => rfl
 | cons _ _ ih => simp [ih]
theorem TRs.get {l l' : List (List TV)} (h : TRs l l') : ∀ {j : Nat} {c : List TV}, l'[j]? = some c → ∃ c0, l[j]? = some c0 ∧ TLs c0 c := by
 induction h with
 | nil => intro j c h; simp at h
 | cons hv _ ih =>
  intro j c h
  cases j with
  | zero => simp at h; subst h; exact ⟨_, rfl, hv⟩
  | succ j => simp at h; obtain ⟨c0, g1, g2⟩ := ih h; exact ⟨c0, by simpa using g1, g2⟩
theorem Le.rows {sz : Nat} {rows rows' : List (List TV)} (h : TRs rows rows') : Le (.tv (.sli sz rows)) (.tv (.sli sz rows')) := by
 intro σ ι u hu
 cases hu with
 | tv hu =>
 cases hu with
 | sli _ _ A cap us hc hm hA hz hv hs =>
 refine .tv ?_
 rw [← h.length]
 refine .sli _ _ A cap us (by rw [h.length]; exact hc) (by rw [h.length]; exact hm) (fun e => ?_) (fun r hr => ?_) (fun i j r c h1 h2 => ?_) (fun a i j r c e h1 h2 => ?_)
 ·have := hA e
  subst this
  cases h; rfl
 ·obtain ⟨i, hi⟩ := List.mem_iff_getElem?.1 hr
  obtain ⟨r0, g1, g2⟩ := h.get hi
  rw [g2.length]; exact hz r0 (List.mem_of_getElem? g1)
 ·obtain ⟨r0, g1, g2⟩ := h.get h1
  obtain ⟨c0, g3, g4⟩ := g2.get h2
  exact g4 _ _ (hv i j r0 c0 g1 g3)
 ·obtain ⟨r0, g1, g2⟩ := h.get h1
  obtain ⟨c0, g3, g4⟩ := g2.get h2
  exact hs a i j r0 c0 e g1 g3
inductive LeL : List AV → List AV → Prop
 | nil : LeL [] []
 | cons {v v' : AV} {r r' : List AV} (h : Le v v') (hs : LeL r r') : LeL (v :: r) (v' :: r')
theorem LeL.refl : ∀ l : List AV, LeL l l
 | [] => .nil
 | v :: r => .cons (Le.refl v) (LeL.refl r)
theorem LeL.vrs {l l' : List AV} (h : LeL l l') : ∀ {σ : Facts} {ι : Where} {us : List Value}, VRs σ ι l us → VRs σ ι l' us := by
 induction h with
 | nil => intro σ ι us h; exact h
 | cons hv _ ih =>
  intro σ ι us h
  obtain ⟨u, us', rfl, h1, h2⟩ := h.cons_inv
  exact VRs.cons (hv _ _ _ h1) (ih h2)
theorem LeL.length {l l' : List AV} (h : LeL l l') : l.length = l'.length := by
 induction h with
 | nil => rfl
 | cons _ _ ih => simp [ih]
theorem Le.agg {l l' : List AV} (h : LeL l l') : Le (.agg l) (.agg l') := by
 intro σ ι u hu
 cases hu with
 | agg _ us hl hv =>
  have := h.vrs (us := us) ⟨hl, hv⟩
  exact .agg _ _ this.1 this.2
theorem Le.tup {l l' : List AV} (h : LeL l l') : Le (.tup l) (.tup l') := by
 intro σ ι u hu
 cases hu with
 | tup _ us hl hv =>
  have := h.vrs (us := us) ⟨hl, hv⟩
  exact .tup _ _ this.1 this.2
theorem PureCall.le {P : Program} {f : FuncId} {args args' : List AV} {v v' : AV} (h : PureCall P f args' v) (ha : LeL args args') (hv : Le v v') : PureCall P f args v' := by
 intro H q B w0 σ ι w us hw hq hus
 refine ⟨trivial, fun cs hr => ?_⟩
 obtain ⟨e, w', fr, ⟨v1, u, H', σ', ι', he, ⟨e1, e2⟩, h3, h4⟩, x⟩ := (h H q B w0 σ ι w us hw hq (ha.vrs hus)).2 cs hr
 subst e1
 exact ⟨e, w', fr, ⟨v', u, H', σ', ι', he, ⟨rfl, e2⟩, hv _ _ _ h3, h4⟩, x⟩
theorem PureCall.arg {P : Program} {f : FuncId} {args args' : List AV} {v : AV} (h : PureCall P f args' v) (ha : LeL args args') : PureCall P f args v := h.le ha (Le.refl v)

/-! ### The frame: a pure call is walked with no block but its own -/
def Pure0 (P : Program) (f : FuncId) (args : List AV) (v : AV) : Prop := CallOK P f args [] [] fun v' _ => v' = v
theorem VRs.cl {σ : Facts} {ι ι' : Where} {vs : List AV} {us : List Value} (h : VRs σ ι vs us) (hc : vs.all AV.cl = true) : VRs σ ι' vs us :=
 ⟨h.1, fun j c u h1 h2 => (h.2 j c u h1 h2).cl (List.all_eq_true.1 hc c (List.mem_of_getElem? h1))⟩
theorem pure_frame {P : Program} {f : FuncId} {args : List AV} {v : AV} (ha : args.all AV.cl = true) (hv : v.cl = true) (h : Pure0 P f args v) : PureCall P f args v := by
 intro H q B w0 σ ι w us hw hq hus
 refine ⟨trivial, fun cs hr => ?_⟩
 have hw0 : WR ⟨w.heap.size, σ, fun _ => False⟩ w σ (fun _ => none) [] w := by
  refine ⟨Nat.le_refl _, ⟨⟨rfl, rfl, rfl, Nat.le_refl _, fun k _ => rfl⟩, fun _ h => h.elim⟩, ?_, ?_, ?_, ?_, hw.sure, ?_, fun a v h => .inl h⟩
  ·intro id o b n h; simp [hget] at h
  ·intro id o h; simp [hget] at h
  ·intro id o h; simp [hget] at h
  ·intro id id' o o' b n n' h; simp [hget] at h
  ·intro a v hs id o b n h; simp [hget] at h
 obtain ⟨e, w', fr, ⟨v1, u, H', σ', ι', he, e1, h3, h4, h5, h6, h7⟩, x⟩ := (h ⟨w.heap.size, σ, fun _ => False⟩ w σ (fun _ => none) w us hw0 (fun _ _ => rfl) (hus.cl ha)).2 cs hr
 subst e1
 refine ⟨e, w', fr, ⟨v1, u, H, σ', ι, he, ⟨rfl, rfl⟩, h3.cl hv, ?_, h5, fun _ _ h => h, fun _ _ => rfl⟩, x⟩
 have hB : B.B ≤ w.heap.size := hw.size
 have hb : Below w.heap.size w w' := h4.below.below
 have old : ∀ k, k < w.heap.size → w'.heap[k]? = w.heap[k]? := hb.block
 refine ⟨hw.hB, hw.below.step ⟨hb.os, hb.tape, hb.output, hb.size, fun k hk => old k (by omega)⟩ (fun k hk => old k (Nat.lt_of_lt_of_le (hw.below.keep k hk).1 hw.below.size)), ?_, hw.ghost, hw.dom, hw.inj, h4.sure, ?_, ?_⟩
 ·intro id o b n ho hi
  obtain ⟨g1, obj, g2, g3⟩ := hw.obj id o b n ho hi
  exact ⟨g1, obj, by rw [old b (hw.lt ho hi)]; exact g2, g3.mono h5 (fun _ _ h => h)⟩
 ·intro a x hs id o b n ho hi hab
  rcases h4.newf a x hs with h | h
  ·exact hw.stab a x h id o b n ho hi hab
  ·have := hw.lt ho hi
   have h := h.1
   simp only at h
   omega
 ·intro a x hs
  rcases h4.newf a x hs with h | h
  ·exact hw.newf a x h
  ·right
   have h := h.1
   simp only at h
   exact ⟨by omega, fun hk => absurd (Nat.lt_of_lt_of_le (hw.below.keep _ hk).1 hw.below.size) (by omega)⟩
end Go.Proofs.YtphmhelkojdlaaaDoor
namespace Go.Proofs.YtphmhelkojdlaaaDoor
open Go.RowKit
set_option linter.unusedSimpArgs false
set_option linter.unusedVariables false
mutual
def AV.rn (s : Id → Option Id) : AV → AV
 | .tv t => .tv t
 | .ptr i off => match s i with
  | some j => .ptr j off
  | none => .any
 | .sl i sz off len => match s i with
  | some j => .sl j sz off len
  | none => .any
 | .map i => match s i with
  | some j => .map j
  | none => .any
 | .fn f cs => .fn f (AV.rnL s cs)
 | .iface t v => .iface t (AV.rn s v)
 | .agg cs => .agg (AV.rnL s cs)
 | .tup vs => .tup (AV.rnL s vs)
 | .yl i => match s i with
  | some j => .yl j
  | none => .any
 | .ds _ => .any
 | .any => .any
def AV.rnL (s : Id → Option Id) : List AV → List AV
 | [] => []
 | v :: r => AV.rn s v :: AV.rnL s r
end
theorem rnL_map (s : Id → Option Id) (l : List AV) : AV.rnL s l = l.map (AV.rn s) := by
 induction l with
 | nil => rfl
 | cons v r ih => simp only [AV.rnL, List.map_cons, ih]
theorem VR.rn {σ : Facts} {ι ι' : Where} {s : Id → Option Id} (h : ∀ i j, s i = some j → ∀ x, ι i = some x → ι' j = some x) {v : AV} {u : Value} (hv : VR σ ι v u) : VR σ ι' (v.rn s) u := by
 have lst : ∀ {cs : List AV} {us : List Value}, (∀ (j : Nat) (c : AV) (u : Value), cs[j]? = some c → us[j]? = some u → VR σ ι' (c.rn s) u) →
   ∀ (j : Nat) (c : AV) (u : Value), (AV.rnL s cs)[j]? = some c → us[j]? = some u → VR σ ι' c u := by
  intro cs us hv j c u h1 h2
  rw [rnL_map, List.getElem?_map] at h1
  cases hc : cs[j]? with
  | none => rw [hc] at h1; cases h1
  | some c' => rw [hc] at h1; cases h1; exact hv j c' u hc h2
 induction hv with
 | tv ht => exact .tv ht
 | ptr id off b n hi =>
  simp only [AV.rn]
  split
  ·rename_i j e; exact .ptr j off b n (h _ _ e _ hi)
  ·exact .any _
 | sl id sz off len b n cap hi hc hn hm =>
  simp only [AV.rn]
  split
  ·rename_i j e; exact .sl j sz off len b n cap (h _ _ e _ hi) hc hn hm
  ·exact .any _
 | sl0 id sz off A =>
  simp only [AV.rn]
  split
  ·exact .sl0 _ sz off A
  ·exact .any _
 | map id b n hi =>
  simp only [AV.rn]
  split
  ·rename_i j e; exact .map j b n (h _ _ e _ hi)
  ·exact .any _
 | fn f cs us hl _ ih => exact .fn f _ us (by rw [rnL_map, List.length_map]; exact hl) (lst ih)
 | iface t v u _ ih => exact .iface t _ u ih
 | agg cs us hl _ ih => exact .agg _ us (by rw [rnL_map, List.length_map]; exact hl) (lst ih)
 | tup cs us hl _ ih => exact .tup _ us (by rw [rnL_map, List.length_map]; exact hl) (lst ih)
 | yl id b n hi =>
  simp only [AV.rn]
  split
  ·rename_i j e; exact .yl j b n (h _ _ e _ hi)
  ·exact .any _
 | ds l u => exact .any u
 | any u => exact .any u
def AO.rn (s : Id → Option Id) : AO → AO
 | .row cells ro => .row (AV.rnL s cells) ro
 | .smap es => .smap (es.map fun x => (x.1, AV.rn s x.2))
 | .loop T nt ps asg body st jump => .loop (T.map fun x => (x.1, AV.rn s x.2)) nt ps asg body st jump
 | .dfr => .dfr
 | .gone => .gone
theorem tget_rn (s : Id → Option Id) (T : Tm) (t : Nat) : tget (T.map fun x => (x.1, AV.rn s x.2)) t = (tget T t).rn s := by
 induction T with
 | nil => rfl
 | cons x r ih =>
  obtain ⟨k, v⟩ := x
  simp only [List.map_cons, tget]
  split
  ·rfl
  ·exact ih
theorem OR.rn {σ : Facts} {ι ι' : Where} {s : Id → Option Id} (h : ∀ i j, s i = some j → ∀ x, ι i = some x → ι' j = some x) {o : AO} {n : Nat} {obj : Obj} (ho : OR σ ι o n obj) : OR σ ι' (o.rn s) n obj := by
 cases o with
 | row cells ro =>
  obtain ⟨arr, e, h1, h2, h3, h4⟩ := ho
  refine ⟨arr, e, h1, h2, by rw [rnL_map, List.length_map]; exact h3, fun j c hc => ?_⟩
  rw [rnL_map, List.getElem?_map] at hc
  cases hc' : cells[j]? with
  | none => rw [hc'] at hc; cases hc
  | some c' =>
   rw [hc'] at hc; cases hc
   obtain ⟨u, hu, hv⟩ := h4 j c' hc'
   exact ⟨u, hu, hv.rn h⟩
 | smap es =>
  obtain ⟨arr, cl, h1, h2, h3⟩ := ho
  refine ⟨arr, cl, h1, by rw [List.length_map]; exact h2, fun j k v hc => ?_⟩
  rw [List.getElem?_map] at hc
  cases hc' : es[j]? with
  | none => rw [hc'] at hc; cases hc
  | some c' =>
   obtain ⟨k', v'⟩ := c'
   rw [hc'] at hc; cases hc
   obtain ⟨e, he, hk, hv⟩ := h3 j k' v' hc'
   exact ⟨e, he, hk, hv.rn h⟩
 | loop T nt ps asg body st jump =>
  obtain ⟨r, h1, h2, h3⟩ := ho
  refine ⟨r, h1, fun t => ?_, h3⟩
  rw [tget_rn]; exact (h2 t).rn h
 | dfr => exact ho
 | gone => exact ho
abbrev Sl := List (Id × Id)
def slk : Sl → Id → Option Id
 | [], _ => none
 | (i, j) :: r, k => if i = k then some j else slk r k
def sinv : Sl → Id → Option Id
 | [], _ => none
 | (i, j) :: r, k => if j = k then some i else sinv r k
def inNs (q : Id) (m0 : Nat) : Id → Bool
 | [] => false
 | k :: r => decide (r = q) && Nat.blt k m0
def sufB (q : Id) : Id → Bool
 | [] => decide (q = [])
 | k :: r => decide (q = k :: r) || sufB q r
def slOk (q : Id) (m0 : Nat) : Sl → Bool
 | [] => true
 | (i, j) :: r => ((decide (i = j) && !sufB q j) || inNs q m0 j) && (sinv r j).isNone && slOk q m0 r
/-- A row of trees alone. -/
def clO : AO → Prop
 | .row cells _ => ∀ c ∈ cells, ∃ t, c = .tv t
 | .smap es => ∀ x ∈ es, ∃ t, x.2 = .tv t
 | _ => False
def clP (cl : List Id) : Hp → Prop
 | [] => True
 | (i, o) :: r => bif cl.any (fun j => decide (j = i)) then clO o ∧ clP cl r else clP cl r
theorem clP_get {cl : List Id} {H : Hp} (h : clP cl H) {i : Id} {o : AO} (ho : hget H i = some o) (hi : cl.any (fun j => decide (j = i)) = true) : clO o := by
 induction H with
 | nil => simp [hget] at ho
 | cons x r ih =>
  obtain ⟨k, y⟩ := x
  simp only [clP] at h
  simp only [hget] at ho
  split at ho
  ·rename_i e; subst e; cases ho
   rw [hi] at h; exact h.1
  ·cases hc : cl.any (fun j => decide (j = k)) with
   | true => rw [hc] at h; exact ih h.2 ho
   | false => rw [hc] at h; exact ih h ho
def rnO (s : Sl) (cl : List Id) (i : Id) (o : AO) : AO := bif cl.any (fun j => decide (j = i)) then o else o.rn (slk s)
def rnH (s : Sl) (cl : List Id) : Hp → Hp
 | [] => []
 | (i, o) :: r => match slk s i with
  | some j => (j, rnO s cl i o) :: rnH s cl r
  | none => rnH s cl r
theorem OR.cl {σ : Facts} {ι ι' : Where} {o : AO} {n : Nat} {obj : Obj} (hc : clO o) (ho : OR σ ι o n obj) : OR σ ι' o n obj := by
 cases o with
 | row cells ro =>
  obtain ⟨arr, e, h1, h2, h3, h4⟩ := ho
  refine ⟨arr, e, h1, h2, h3, fun j c hj => ?_⟩
  obtain ⟨u, hu, hv⟩ := h4 j c hj
  obtain ⟨t, rfl⟩ := hc c (List.mem_of_getElem? hj)
  cases hv with
  | tv hv => exact ⟨u, hu, .tv hv⟩
 | smap es =>
  obtain ⟨arr, cl, h1, h2, h3⟩ := ho
  refine ⟨arr, cl, h1, h2, fun j k v hj => ?_⟩
  obtain ⟨e, he, hk, hv⟩ := h3 j k v hj
  obtain ⟨t, ht⟩ := hc (k, v) (List.mem_of_getElem? hj)
  simp only at ht
  subst ht
  cases hv with
  | tv hv => exact ⟨e, he, hk, .tv hv⟩
 | _ => exact hc.elim
def isAny : AV → Bool
 | .any => true
 | _ => false
def rnB (q : Id) (m0 : Nat) (s : Sl) (cl : List Id) (l : List Nat) (T : Tm) (H : Hp) : Option (Tm × Hp) := match slOk q m0 s && isAny (tget T 1000000) with
 | true => some ((1000000, .any) :: l.map (fun t => (t, (tget T t).rn (slk s))), rnH s cl H)
 | false => none
theorem sufB_iff (q j : Id) : sufB q j = true ↔ q <:+ j := by
 induction j with
 | nil => simp [sufB]
 | cons k r ih =>
  simp only [sufB, Bool.or_eq_true, decide_eq_true_eq, ih]
  constructor
  ·rintro (rfl | h)
   ·exact List.suffix_refl _
   ·exact h.trans (List.suffix_cons _ _)
  ·rintro ⟨t, ht⟩
   cases t with
   | nil => exact .inl ht
   | cons a t => simp at ht; exact .inr ⟨t, ht.2⟩
theorem inNs_iff {q : Id} {m0 : Nat} {j : Id} (h : inNs q m0 j = true) : ∃ k, k < m0 ∧ j = k :: q := by
 cases j with
 | nil => cases h
 | cons k r =>
  simp only [inNs, Bool.and_eq_true, decide_eq_true_eq] at h
  exact ⟨k, Nat.le_of_ble_eq_true h.2, by rw [h.1]⟩
theorem slOk_spec {q : Id} {m0 : Nat} : ∀ {s : Sl}, slOk q m0 s = true → ∀ i j, slk s i = some j → sinv s j = some i ∧ ((i = j ∧ ¬ q <:+ j) ∨ ∃ k, k < m0 ∧ j = k :: q) := by
 intro s
 induction s with
 | nil => intro _ i j h; simp [slk] at h
 | cons x r ih =>
  obtain ⟨a, b⟩ := x
  intro h i j hl
  simp only [slOk, Bool.and_eq_true, Option.isNone_iff_eq_none] at h
  obtain ⟨⟨h1, h2⟩, h3⟩ := h
  simp only [slk] at hl
  simp only [sinv]
  split at hl
  ·rename_i e; subst e; cases hl
   refine ⟨by rw [if_pos rfl], ?_⟩
   simp only [Bool.or_eq_true, Bool.and_eq_true, decide_eq_true_eq, Bool.not_eq_true'] at h1
   rcases h1 with ⟨h1, h4⟩ | h1
   ·refine .inl ⟨h1, fun hs => ?_⟩
    rw [(sufB_iff q b).2 hs] at h4; cases h4
   ·exact .inr (inNs_iff h1)
  ·obtain ⟨g1, g2⟩ := ih h3 i j hl
   refine ⟨?_, g2⟩
   rw [if_neg]
   ·exact g1
   ·intro e; subst e; rw [h2] at g1; cases g1
theorem sinv_slk {s : Sl} {i j : Id} (h : sinv s j = some i) : (i, j) ∈ s := by
 induction s with
 | nil => simp [sinv] at h
 | cons x r ih =>
  obtain ⟨a, b⟩ := x
  simp only [sinv] at h
  split at h
  ·rename_i e; subst e; cases h; simp
  ·simp [ih h]
theorem slOk_mem {q : Id} {m0 : Nat} : ∀ {s : Sl}, slOk q m0 s = true → ∀ i j, (i, j) ∈ s → (i = j ∧ ¬ q <:+ j) ∨ ∃ k, k < m0 ∧ j = k :: q := by
 intro s
 induction s with
 | nil => intro _ i j h; simp at h
 | cons x r ih =>
  obtain ⟨a, b⟩ := x
  intro h i j hl
  simp only [slOk, Bool.and_eq_true] at h
  obtain ⟨⟨h1, _⟩, h3⟩ := h
  simp at hl
  rcases hl with ⟨rfl, rfl⟩ | hl
  ·simp only [Bool.or_eq_true, Bool.and_eq_true, decide_eq_true_eq, Bool.not_eq_true'] at h1
   rcases h1 with ⟨h1, h4⟩ | h1
   ·refine .inl ⟨h1, fun hs => ?_⟩
    rw [(sufB_iff q j).2 hs] at h4; cases h4
   ·exact .inr (inNs_iff h1)
  ·exact ih h3 i j hl
theorem hget_rnH {s : Sl} {cl : List Id} : ∀ {H : Hp} {j : Id} {o : AO}, hget (rnH s cl H) j = some o → ∃ i o1, hget H i = some o1 ∧ slk s i = some j ∧ o = rnO s cl i o1 := by
 intro H
 induction H with
 | nil => intro j o h; simp [rnH, hget] at h
 | cons x r ih =>
  obtain ⟨i, o1⟩ := x
  intro j o h
  simp only [rnH] at h
  split at h
  ·rename_i j0 e
   simp only [hget] at h
   split at h
   ·rename_i e2; subst e2; cases h
    exact ⟨i, o1, by simp [hget], e, rfl⟩
   ·rename_i e2
    obtain ⟨i', o', g1, g2, g3⟩ := ih h
    refine ⟨i', o', ?_, g2, g3⟩
    simp only [hget]
    rw [if_neg]
    ·exact g1
    ·intro e3; subst e3; rw [e] at g2; cases g2; exact e2 rfl
  ·rename_i e
   obtain ⟨i', o', g1, g2, g3⟩ := ih h
   refine ⟨i', o', ?_, g2, g3⟩
   simp only [hget]
   rw [if_neg]
   ·exact g1
   ·intro e3; subst e3; rw [e] at g2; cases g2
def rnι (q : Id) (s : Sl) (ι : Where) : Where := fun j => bif sufB q j then (match sinv s j with | some i => ι i | none => none) else ι j
theorem rnι_ok {q : Id} {m0 : Nat} {s : Sl} {ι : Where} (h : slOk q m0 s = true) : ∀ i j, slk s i = some j → rnι q s ι j = ι i := by
 intro i j hj
 obtain ⟨h1, h2⟩ := slOk_spec h i j hj
 unfold rnι
 rcases h2 with ⟨rfl, h2⟩ | ⟨k, hk, rfl⟩
 ·have : sufB q i = false := by
   cases hb : sufB q i with
   | false => rfl
   | true => exact absurd ((sufB_iff _ _).1 hb) h2
  rw [this]; rfl
 ·have : sufB q (k :: q) = true := (sufB_iff _ _).2 (List.suffix_cons _ _)
  rw [this, h1]; rfl
theorem WR.rn {B : Base} {w0 w : World} {σ : Facts} {ι : Where} {H : Hp} {q : Id} {m0 : Nat} {s : Sl} {cl : List Id} (hs : slOk q m0 s = true) (hcl : clP cl H) (h : WR B w0 σ ι H w) : WR B w0 σ (rnι q s ι) (rnH s cl H) w := by
 have key := rnι_ok (ι := ι) hs
 have hmap : ∀ i j, slk s i = some j → ∀ x, ι i = some x → rnι q s ι j = some x := fun i j hj x hx => by rw [key i j hj]; exact hx
 refine ⟨h.hB, h.below, ?_, ?_, ?_, ?_, h.sure, ?_, h.newf⟩
 ·intro j o b n ho hi
  obtain ⟨i, o1, g1, g2, rfl⟩ := hget_rnH ho
  rw [key i j g2] at hi
  obtain ⟨k1, obj, k2, k3⟩ := h.obj i o1 b n g1 hi
  refine ⟨k1, obj, k2, ?_⟩
  unfold rnO
  cases hc : cl.any (fun j => decide (j = i)) with
  | true => exact k3.cl (clP_get hcl g1 hc)
  | false => exact k3.rn hmap
 ·intro j o ho hi
  obtain ⟨i, o1, g1, g2, rfl⟩ := hget_rnH ho
  rw [key i j g2] at hi
  obtain ⟨ro, rfl⟩ := h.ghost i o1 g1 hi
  exact ⟨ro, by unfold rnO; cases cl.any (fun j => decide (j = i)) <;> rfl⟩
 ·intro j o ho
  obtain ⟨i, o1, g1, g2, rfl⟩ := hget_rnH ho
  rw [key i j g2]; exact h.dom i o1 g1
 ·intro j j' o o' b n n' ho ho' hi hi'
  obtain ⟨i, o1, g1, g2, rfl⟩ := hget_rnH ho
  obtain ⟨i', o1', g1', g2', rfl⟩ := hget_rnH ho'
  rw [key i j g2] at hi
  rw [key i' j' g2'] at hi'
  have := h.inj i i' o1 o1' b n n' g1 g1' hi hi'
  subst this
  rw [g2] at g2'; cases g2'; rfl
 ·intro a v hsv j o b n ho hi hb
  obtain ⟨i, o1, g1, g2, rfl⟩ := hget_rnH ho
  rw [key i j g2] at hi
  obtain ⟨cells, rfl, hlt⟩ := h.stab a v hsv i o1 b n g1 hi hb
  unfold rnO
  cases cl.any (fun j => decide (j = i)) with
  | true => exact ⟨_, rfl, hlt⟩
  | false => exact ⟨_, rfl, by rw [rnL_map, List.length_map]; exact hlt⟩

/-! ### Weaker states -/
def LeT (T T' : Tm) : Prop := ∀ t, Le (tget T t) (tget T' t)
theorem LeT.refl (T : Tm) : LeT T T := fun _ => Le.refl _
theorem LeT.cons {T T' : Tm} {t : Nat} {v v' : AV} (h : Le v v') (hs : LeT T T') : LeT ((t, v) :: T) ((t, v') :: T') := by
 intro k
 simp only [tget]
 split
 ·exact h
 ·exact hs k
/-- Rows of a heap told weaker. -/
inductive LeH : Hp → Hp → Prop
 | refl (H : Hp) : LeH H H
 | cons (i : Id) (o : AO) {H H' : Hp} (h : LeH H H') : LeH ((i, o) :: H) ((i, o) :: H')
 | row (i : Id) (ro : Bool) {cs cs' : List AV} {H H' : Hp} (hc : LeL cs cs') (h : LeH H H') : LeH ((i, .row cs ro) :: H) ((i, .row cs' ro) :: H')
theorem LeL.get {l l' : List AV} (h : LeL l l') : ∀ {j : Nat} {c : AV}, l'[j]? = some c → ∃ c0, l[j]? = some c0 ∧ Le c0 c := by
 induction h with
 | nil => intro j c h; simp at h
 | cons hv _ ih =>
  intro j c h
  cases j with
  | zero => simp at h; subst h; exact ⟨_, rfl, hv⟩
  | succ j => simp at h; obtain ⟨c0, g1, g2⟩ := ih h; exact ⟨c0, by simpa using g1, g2⟩
theorem LeH.get {H H' : Hp} (h : LeH H H') : ∀ {i : Id} {o : AO}, hget H' i = some o → ∃ o0, hget H i = some o0 ∧ (o0 = o ∨ ∃ cs cs' ro, o0 = .row cs ro ∧ o = .row cs' ro ∧ LeL cs cs') := by
 induction h with
 | refl H => intro i o ho; exact ⟨o, ho, .inl rfl⟩
 | cons i o h ih =>
  intro k x hx
  simp only [hget] at hx ⊢
  split at hx
  ·rename_i e; rw [if_pos e]; cases hx; exact ⟨_, rfl, .inl rfl⟩
  ·rename_i e; rw [if_neg e]; exact ih hx
 | row i ro hc h ih =>
  intro k x hx
  simp only [hget] at hx ⊢
  split at hx
  ·rename_i e; rw [if_pos e]; cases hx; exact ⟨_, rfl, .inr ⟨_, _, _, rfl, rfl, hc⟩⟩
  ·rename_i e; rw [if_neg e]; exact ih hx
theorem WR.le {B : Base} {w0 w : World} {σ : Facts} {ι : Where} {H H' : Hp} (h : WR B w0 σ ι H w) (hl : LeH H H') : WR B w0 σ ι H' w := by
 refine ⟨h.hB, h.below, ?_, ?_, ?_, ?_, h.sure, ?_, h.newf⟩
 ·intro i o b n ho hi
  obtain ⟨o0, g1, g2⟩ := hl.get ho
  obtain ⟨k1, obj, k2, k3⟩ := h.obj i o0 b n g1 hi
  refine ⟨k1, obj, k2, ?_⟩
  rcases g2 with rfl | ⟨cs, cs', ro, rfl, rfl, hc⟩
  ·exact k3
  ·obtain ⟨arr, e, e1, e2, e3, e4⟩ := k3
   refine ⟨arr, e, e1, e2, by rw [← hc.length]; exact e3, fun j c hj => ?_⟩
   obtain ⟨c0, hc0, hle⟩ := hc.get hj
   obtain ⟨u, hu, hv⟩ := e4 j c0 hc0
   exact ⟨u, hu, hle _ _ _ hv⟩
 ·intro i o ho hi
  obtain ⟨o0, g1, g2⟩ := hl.get ho
  obtain ⟨ro, e⟩ := h.ghost i o0 g1 hi
  rcases g2 with rfl | ⟨cs, cs', ro', rfl, rfl, hc⟩
  ·exact ⟨ro, e⟩
  ·cases e; cases hc; exact ⟨ro, rfl⟩
 ·intro i o ho
  obtain ⟨o0, g1, _⟩ := hl.get ho
  exact h.dom i o0 g1
 ·intro i j o o' b n n' h1 h2
  obtain ⟨o1, g1, _⟩ := hl.get h1
  obtain ⟨o2, g2, _⟩ := hl.get h2
  exact h.inj i j o1 o2 b n n' g1 g2
 ·intro a v hs i o b n ho hi hb
  obtain ⟨o0, g1, g2⟩ := hl.get ho
  obtain ⟨cells, e, hlt⟩ := h.stab a v hs i o0 b n g1 hi hb
  rcases g2 with rfl | ⟨cs, cs', ro', rfl, rfl, hc⟩
  ·exact ⟨cells, e, hlt⟩
  ·cases e; exact ⟨_, rfl, by rw [← hc.length]; exact hlt⟩
theorem Gh.le {T T' : Tm} {H H' : Hp} {p : Id} {n : Nat} (hT : LeT T T') (hd : tget T' 1000000 = tget T 1000000) (hH : LeH H H') : Gh ⟨T, H, p, n⟩ ⟨T', H', p, n⟩ := by
 rintro E B w0 σ0 ι0 q ds a w ⟨σ, ι, hs⟩
 exact ⟨σ, ι, hs.le, hs.lei, hs.out, hs.wr.le hH, fun t => hT t _ _ _ (hs.tr t), hs.nt, hs.qp, hs.fr, hs.df.same hd, hs.nk⟩
/-- From a state of a loop's round to one with other ids, told weaker. -/
def RnOK (q : Id) (m0 : Nat) (T : Tm) (H : Hp) (n : Nat) (T' : Tm) (H' : Hp) : Prop := ∀ E B w0 σ0 ι0 ds a w, (∀ j, q <:+ j → ι0 j = none) →
 SR E B w0 σ0 ι0 q ds ⟨T, H, q, n⟩ a w → SR E B w0 σ0 ι0 q ds ⟨T', H', q, m0⟩ a w
theorem rn_ok {q : Id} {m0 n : Nat} {T T1 : Tm} {H H1 : Hp} (s : Sl) (cl : List Id) (l : List Nat) (hcl : clP cl H) (h : rnB q m0 s cl l T H = some (T1, H1)) : RnOK q m0 T H n T1 H1 := by
 rintro E B w0 σ0 ι0 ds a w hf ⟨σ, ι, hs⟩
 unfold rnB at h
 split at h
 ·rename_i hok
  simp only [Bool.and_eq_true] at hok
  obtain ⟨hok, hany⟩ := hok
  have hd0 : tget T 1000000 = .any := by
   cases hT : tget T 1000000 <;> rw [hT] at hany <;> simp [isAny] at hany
  cases h
  have key := rnι_ok (ι := ι) hok
  have hmap : ∀ i j, slk s i = some j → ∀ x, ι i = some x → rnι q s ι j = some x := fun i j hj x hx => by rw [key i j hj]; exact hx
  have hout : ∀ j, ¬ q <:+ j → rnι q s ι j = ι j := by
   intro j hj
   have : sufB q j = false := by
    cases hb : sufB q j with
    | false => rfl
    | true => exact absurd ((sufB_iff _ _).1 hb) hj
   unfold rnι; rw [this]; rfl
  refine ⟨σ, rnι q s ι, hs.le, fun j y hj => ?_, fun j hj => ?_, hs.wr.rn hok hcl, fun t => ?_, hs.nt, hs.qp, fun j k hk hj => ?_, ?_, hs.nk⟩
  ·have hnq : ¬ q <:+ j := fun hq => by rw [hf j hq] at hj; cases hj
   rw [hout j hnq]; exact hs.lei j y hj
  ·rw [hout j hj]; exact hs.out j hj
  ·simp only [tget]
   split
   ·exact .any _
   ·clear hany
    induction l with
    | nil => exact .any _
    | cons k l ih =>
     simp only [List.map_cons, tget]
     split
     ·rename_i e; subst e; exact (hs.tr k).rn hmap
     ·exact ih
  ·have hq : q <:+ j := (List.suffix_cons _ _).trans hj
   unfold rnι
   rw [(sufB_iff q j).2 hq]
   simp only [cond_true]
   split
   ·rename_i i hi
    exfalso
    rcases slOk_mem hok i j (sinv_slk hi) with ⟨_, h2⟩ | ⟨k', hk', rfl⟩
    ·exact h2 hq
    ·have hk : m0 ≤ k := hk
     have := suffix_cons_ne hj (List.suffix_refl _)
     omega
   ·rfl
  ·obtain ⟨ms, h1, h2⟩ := hs.df
   refine ⟨ms, h1, ?_⟩
   simp only [tget, if_true]
   simp only [hd0] at h2
   exact h2
 ·cases h
theorem RnOK.le {q : Id} {m0 n : Nat} {T T1 T2 : Tm} {H H1 H2 : Hp} (h : RnOK q m0 T H n T1 H1) (hT : LeT T1 T2) (hd : tget T2 1000000 = tget T1 1000000) (hH : LeH H1 H2) : RnOK q m0 T H n T2 H2 :=
 fun E B w0 σ0 ι0 ds a w hf hs => Gh.le hT hd hH E B w0 σ0 ι0 q ds a w (h E B w0 σ0 ι0 ds a w hf hs)
/-- A loop whose rounds begin with told states; the counter of a round begins at m0. -/
def loopR {X : Type} (p : Id) (n m0 : Nat) (tx : X → Tm) (hx : X → Hp) (inv : X → Prop) (μ : X → Nat) (k : Nat) (Q : Exit → St → Prop) : Exit → St → Prop
 | .normal, s => s.p = n :: p ∧ ∃ x, μ x < k ∧ inv x ∧ RnOK (n :: p) m0 s.T s.H s.n (tx x) (hx x)
 | e, s => Q e ⟨s.T, s.H, p, n + 1⟩
theorem at_loopR {E : En} {Q : Exit → St → Prop} {body : Code} {T : Tm} {H : Hp} {p : Id} {n : Nat} {X : Type} (m0 : Nat) (tx : X → Tm) (hx : X → Hp) (inv : X → Prop) (μ : X → Nat) (x0 : X)
  (h0 : inv x0) (hr : RnOK (n :: p) m0 T H 0 (tx x0) (hx x0))
  (hb : ∀ x, inv x → AT E body (loopR p n m0 tx hx inv μ (μ x) Q) ⟨tx x, hx x, n :: p, m0⟩) : AT E (.loop body) Q ⟨T, H, p, n⟩ := by
 rintro B w0 σ0 ι0 q ds a w ⟨σ, ι, hs⟩
 intro b k cs hro hbf hrr
 have hfresh : ∀ j, (n :: p) <:+ j → ι j = none := fun j hj => hs.fr j n (Nat.le_refl _) hj
 have back : ∀ s' a' w', SR E B w0 σ ι (n :: p) ds s' a' w' → SR E B w0 σ0 ι0 q ds ⟨s'.T, s'.H, p, n + 1⟩ a' w' := by
  rintro s' a' w' ⟨σ', ι', hs'⟩
  refine ⟨σ', ι', fun x y h => hs'.le _ _ (hs.le x y h), fun j y h => hs'.lei _ _ (hs.lei j y h), fun j hj => ?_, hs'.wr, hs'.tr, hs'.nt, hs.qp, fun j k hk hj => ?_, hs'.df, hs'.nk⟩
  ·rw [hs'.out j (fun h => hj ((hs.qp.trans (List.suffix_cons _ _)).trans h))]; exact hs.out j hj
  ·have hk' : n + 1 ≤ k := hk
   rw [hs'.out j (fun h => by have := suffix_cons_ne hj h; omega)]
   exact hs.fr j k (by show n ≤ k; omega) hj
 have key : ∀ i x a w, μ x = i → inv x → SR E B w0 σ ι (n :: p) ds ⟨tx x, hx x, n :: p, m0⟩ a w →
   ∃ e a' w', (∃ s', Q e s' ∧ SR E B w0 σ0 ι0 q ds s' a' w') ∧ ArrivesIn (Machine.fenced E.P E.F) E.P (lone (b.atR a (.code body :: .inLoop body :: k)) cs w) b k cs e a' w' := by
  intro i
  induction i using Nat.strongRecOn with
  | _ i ih =>
   intro x a w hμ hI hsr
   obtain ⟨e, a₁, w₁, ⟨s', hq, hsr'⟩, harr⟩ := hb x hI B w0 σ ι (n :: p) ds a w hsr b (.inLoop body :: k) cs hro hbf hrr
   cases e with
   | normal =>
    obtain ⟨hp, x', hlt, hI', hrn⟩ := hq
    obtain ⟨T1, H1, p1, m1⟩ := s'
    simp only at hp
    subst hp
    obtain ⟨e₂, a₂, w₂, hq₂, harr₂⟩ := ih (μ x') (by omega) x' a₁ w₁ rfl hI' (hrn E B w0 σ ι ds a₁ w₁ hfresh hsr')
    exact ⟨e₂, a₂, w₂, hq₂, .of_steps (StepsIn.trans harr (.one (fenced_calm hbf hrr rfl) stepR_inLoop)) harr₂⟩
   | exit id => exact ⟨_, a₁, w₁, ⟨_, hq, back s' a₁ w₁ hsr'⟩, .pass (x := .inLoop body) rfl (fun _ _ => .inl (by simp)) harr⟩
   | goto l => exact ⟨_, a₁, w₁, ⟨_, hq, back s' a₁ w₁ hsr'⟩, .pass (x := .inLoop body) rfl (fun _ _ => .inl (by simp)) harr⟩
   | ret => exact ⟨_, a₁, w₁, ⟨_, hq, back s' a₁ w₁ hsr'⟩, .pass (x := .inLoop body) rfl (fun _ _ => .inl (by simp)) harr⟩
   | panic ch => exact ⟨_, a₁, w₁, ⟨_, hq, back s' a₁ w₁ hsr'⟩, .pass (x := .inLoop body) rfl (fun _ _ => .inl (by simp)) harr⟩
   | outgrown => exact ⟨_, a₁, w₁, ⟨_, hq, back s' a₁ w₁ hsr'⟩, .pass (x := .inLoop body) rfl (fun _ _ => .inl (by simp)) harr⟩
 have hstart : SR E B w0 σ ι (n :: p) ds ⟨T, H, n :: p, 0⟩ a w :=
  ⟨σ, ι, fun _ _ h => h, fun _ _ h => h, fun _ _ => rfl, hs.wr, hs.tr, hs.nt, List.suffix_refl _, fun j k _ hj => hs.fr j n (Nat.le_refl _) ((List.suffix_cons _ _).trans hj), hs.df, hs.nk⟩
 obtain ⟨e, a', w', hq, harr⟩ := key (μ x0) x0 a w rfl h0 (hr E B w0 σ ι ds a w hfresh hstart)
 exact ⟨e, a', w', hq, .of_steps (.one (fenced_calm hbf hrr rfl) stepR_loop) harr⟩
/-- A nil slice, told as an empty one of one's own. -/
theorem Gh.own {T : Tm} {H : Hp} {p : Id} {n : Nat} (t sz : Nat) (ht : tget T t = .tv .nils) (h0 : t ≠ 1000000) : Gh ⟨T, H, p, n⟩ ⟨(t, .sl (n :: p) sz 0 0) :: T, (n :: p, .row [] false) :: H, p, n + 1⟩ := by
 rintro E B w0 σ0 ι0 q ds a w ⟨σ, ι, hs⟩
 have hid : ι (n :: p) = none := hs.fr _ n (Nat.le_refl _) (List.suffix_refl _)
 have hle := wput_le (x := none) hid
 have hne : ∀ j, j ≠ n :: p → wput ι (n :: p) none j = ι j := fun j hj => by unfold wput; rw [if_neg hj]
 refine ⟨σ, wput ι (n :: p) none, hs.le, fun j y h => hle _ _ (hs.lei j y h), fun j hj => ?_, hs.wr.empty _ hid false, fun k => ?_, hs.nt, hs.qp, fun j k hk hj => ?_, (hs.df.mono (fun _ _ h => h) hle).same (by simp [tget, h0]), hs.nk⟩
 ·rw [hne j (fun e => by subst e; exact hj (hs.qp.trans (List.suffix_cons _ _)))]; exact hs.out j hj
 ·simp only [tget]
  split
  ·rename_i e; subst e
   have := hs.tr t
   rw [ht] at this
   generalize a.tmps.getD t undef = u at this
   cases this with
   | tv h => cases h; exact .sl0 _ _ _ _
  ·exact (hs.tr k).mono (fun _ _ h => h) hle
 ·have hk' : n + 1 ≤ k := hk
  rw [hne j (fun e => by subst e; have := suffix_cons_ne hj (List.suffix_refl _); omega)]
  exact hs.fr j k (by show n ≤ k; omega) hj

/-! ### Lists of one's own, told by what is in them -/
def flat {α : Type} (enc : α → List TV) (l : List α) : List AV := (l.map enc).flatten.map .tv
theorem tvs_map (l : List TV) : tvs (l.map .tv) = some l := by
 induction l with
 | nil => rfl
 | cons x r ih => simp only [List.map_cons, tvs, ih, Option.map_some]
theorem flat_len {α : Type} {enc : α → List TV} {sz : Nat} (hz : ∀ a, (enc a).length = sz) (l : List α) : (flat enc l).length = l.length * sz := by
 unfold flat
 rw [List.length_map]
 induction l with
 | nil => simp
 | cons a l ih => simp only [List.map_cons, List.flatten_cons, List.length_append, ih, hz, List.length_cons]; rw [Nat.succ_mul]; omega
theorem chunk_flat {α : Type} {enc : α → List TV} {sz : Nat} (hz : ∀ a, (enc a).length = sz) : ∀ l : List α, chunk sz l.length (l.map enc).flatten = l.map enc := by
 intro l
 induction l with
 | nil => rfl
 | cons a l ih =>
  simp only [List.length_cons, chunk, List.map_cons, List.flatten_cons]
  rw [List.take_append_of_le_length (by rw [hz]; omega), List.drop_append_of_le_length (by rw [hz]; omega)]
  have e1 : (enc a).take sz = enc a := by rw [List.take_of_length_le]; rw [hz]; omega
  have e2 : (enc a).drop sz = [] := by rw [List.drop_of_length_le]; rw [hz]; omega
  rw [e1, e2, List.nil_append, ih]
theorem frz_flat {α : Type} {H : Hp} {i : Id} {enc : α → List TV} {l : List α} {sz : Nat} {ro : Bool} (hh : hget H i = some (.row (flat enc l) ro)) (hz : ∀ a, (enc a).length = sz) (h0 : 0 < sz) :
  frzV H (.sl i sz 0 l.length) = some (.tv (.sli sz (l.map enc)), hset H i (.row (flat enc l) true)) := by
 have ht : tvs (flat enc l) = some (l.map enc).flatten := tvs_map _
 have hl := flat_len hz l
 unfold flat at hl
 rw [List.length_map] at hl
 simp only [frzV, hh, ht]
 rw [if_pos ⟨trivial, hl, h0⟩, chunk_flat hz]
theorem clO_flat {α : Type} (enc : α → List TV) (l : List α) (ro : Bool) : clO (.row (flat enc l) ro) := by
 intro c hc
 unfold flat at hc
 obtain ⟨t, _, rfl⟩ := List.mem_map.1 hc
 exact ⟨t, rfl⟩
theorem row_enc {α : Type} (enc : α → List TV) (l : List α) (i : Int) (d : α) (h : 0 ≤ i ∧ i < ((l.map enc).length : Int)) : rowAt (l.map enc) i = enc (l.getD i.toNat d) :=
 rowAt_map enc l i d (by simpa using h)
end Go.Proofs.YtphmhelkojdlaaaDoor
namespace Go.Proofs.YtphmhelkojdlaaaDoor
open Go.RowKit
set_option linter.unusedSimpArgs false
set_option linter.unusedVariables false
def resB (P : Program) (T : Tm) (H : Hp) : List ResultVar → List AV → Option (List AV)
 | [], acc => some acc.reverse
 | .tmp t :: r, acc => resB P T H r (tget T t :: acc)
 | .cell a t :: r, acc => match evLoad P H t (tget T a) with
  | .val v _ => resB P T H r (v :: acc)
  | _ => none
theorem resB_ok {P : Program} {T : Tm} {H : Hp} {K : List AV → Prop} : ∀ {rs : List ResultVar} {acc vs : List AV}, resB P T H rs acc = some vs → K vs → resK P T H rs acc K := by
 intro rs
 induction rs with
 | nil => intro acc vs h hk; cases h; exact hk
 | cons r rs ih =>
  intro acc vs h hk
  cases r with
  | tmp t => exact ih h hk
  | cell a t =>
   simp only [resB] at h
   simp only [resK]
   cases hl : evLoad P H t (tget T a) with
   | val v e => rw [hl] at h; exact ih h hk
   | _ => rw [hl] at h; cases h
/-- What is handed back, its lists of one's own read as trees. -/
def frzR (H : Hp) : AV → Option (AV × Hp)
 | .tup vs => match frzs vs H with
  | some (vs', H') => some (.tup vs', H')
  | none => none
 | v => frzV H v
theorem frzR_ok {B : Base} {w0 w : World} {σ : Facts} {ι : Where} {H H' : Hp} {v v' : AV} {u : Value} (hw : WR B w0 σ ι H w) (h : frzR H v = some (v', H')) (hv : VR σ ι v u) :
  ∃ σ', (∀ x y, σ x y → σ' x y) ∧ WR B w0 σ' ι H' w ∧ VR σ' ι v' u := by
 unfold frzR at h
 split at h
 ·rename_i vs
  split at h
  ·rename_i vs' H1 hf
   cases h
   cases hv with
   | tup _ us hl hv =>
   obtain ⟨σ', h1, h2, h3⟩ := frzs_ok _ _ _ _ _ _ _ hw hf (⟨hl, hv⟩ : VRs σ ι vs us)
   exact ⟨σ', h1, h2, .tup _ _ h3.1 h3.2⟩
  ·cases h
 ·obtain ⟨σ', h1, h2, h3⟩ := frzV_ok hw h
  exact ⟨σ', h1, h2, h3 u hv⟩
def PureZ (P : Program) (f : FuncId) (args : List AV) (v : AV) : Prop := CallOK P f args [] [] fun v1 H1 => ∃ v2 H2, frzR H1 v1 = some (v2, H2) ∧ Le v2 v
theorem pureZ_frame {P : Program} {f : FuncId} {args : List AV} {v : AV} (ha : args.all AV.cl = true) (hv : v.cl = true) (h : PureZ P f args v) : PureCall P f args v := by
 refine pure_frame ha hv ?_
 intro B w0 σ ι w us hw hq hus
 refine ⟨trivial, fun cs hr => ?_⟩
 obtain ⟨e, w', fr, ⟨v1, u, H', σ', ι', he, ⟨v2, H2, hf, hle⟩, h3, h4, h5, h6, h7⟩, x⟩ := (h B w0 σ ι w us hw hq hus).2 cs hr
 obtain ⟨σ2, l2, hw2, hv2⟩ := frzR_ok h4 hf h3
 exact ⟨e, w', fr, ⟨v, u, H2, σ2, ι', he, rfl, hle _ _ _ hv2, hw2, fun x y h => l2 _ _ (h5 x y h), h6, h7⟩, x⟩
/-- What a pure function's body must come to. -/
def endQ (P : Program) (rs : List ResultVar) (v : AV) : Exit → St → Prop := fun e s =>
 (e = .normal ∨ e = .ret) ∧ leaveD (tget s.T 1000000) s.H fun H' => resK P s.T H' rs [] (fun vs => ∃ v2 H2, frzR H' (retV vs) = some (v2, H2) ∧ Le v2 v)
theorem walk0 {P : Program} {f : FuncId} {fn : Func} {c : Code} {args : List AV} {v : AV} (rs : List ResultVar) (hf : P.funcs[f]? = some fn) (hb : fn.body = some c) (hn : (Nat.ble args.length fn.ntmps && Nat.ble fn.ntmps 1000000) = true) (hrs : fn.results.toList = rs)
  (ha : args.all AV.cl = true) (hv : v.cl = true) (h : AT ⟨P, none, fn.ntmps⟩ c (endQ P rs v) ⟨argT args 0, [], [], 0⟩) : PureCall P f args v := by
 subst hrs
 rw [Bool.and_eq_true] at hn
 exact pureZ_frame ha hv (call_of_at hf hb ⟨Nat.le_of_ble_eq_true hn.1, Nat.le_of_ble_eq_true hn.2⟩ h)
/-- The deferred calls of ranges over functions, at an activation's end. -/
def leaveB : AV → Hp → Option Hp
 | .any, H => some H
 | .ds l, H => go l H
 | _, _ => none
 where go : List AV → Hp → Option Hp
 | [], H => some H
 | .ptr id _ :: r, H => match hget H id with
  | some .dfr => go r (hset H id .gone)
  | _ => none
 | _ :: _, _ => none
theorem leaveB_ok {v : AV} {H H' : Hp} {K : Hp → Prop} (h : leaveB v H = some H') (hk : K H') : leaveD v H K := by
 have go : ∀ {l : List AV} {H : Hp}, leaveB.go l H = some H' → leaveK l H K := by
  intro l
  induction l with
  | nil => intro H h; cases h; exact hk
  | cons v l ih =>
   intro H h
   cases v with
   | ptr id off =>
    simp only [leaveB.go] at h
    split at h
    ·rename_i e; exact ⟨e, ih h⟩
    ·cases h
   | _ => cases h
 cases v with
 | any => cases h; exact hk
 | ds l => exact go h
 | _ => cases h
def endB (P : Program) (T : Tm) (H : Hp) (rs : List ResultVar) : Option (AV × Hp) := match leaveB (tget T 1000000) H with
 | none => none
 | some H' => match resB P T H' rs [] with
  | none => none
  | some vs => some (retV vs, H')
theorem fin0 {P : Program} {rs : List ResultVar} {v : AV} {e : Exit} {T : Tm} {H : Hp} {p : Id} {n : Nat} (he : e = .normal ∨ e = .ret) (v1 : AV) (H1 : Hp) (v2 : AV) {H2 : Hp} (hr : endB P T H rs = some (v1, H1)) (hf : frzR H1 v1 = some (v2, H2)) (hv : Le v2 v) : endQ P rs v e ⟨T, H, p, n⟩ := by
 refine ⟨he, ?_⟩
 unfold endB at hr
 split at hr
 ·cases hr
 ·rename_i H' hl
  split at hr
  ·cases hr
  ·rename_i vs hvs
   cases hr
   exact leaveB_ok hl (resB_ok hvs ⟨v2, H2, hf, hv⟩)
theorem frzs_nil {H : Hp} : frzs [] H = some ([], H) := rfl
theorem frzs_cons {v v' : AV} {r r' : List AV} {H H1 H2 : Hp} (h : frzV H v = some (v', H1)) (hs : frzs r H1 = some (r', H2)) : frzs (v :: r) H = some (v' :: r', H2) := by
 simp only [frzs, h, hs]
theorem frzR_one {H : Hp} {i : Id} {sz off len : Nat} {r : Option (AV × Hp)} (h : frzV H (.sl i sz off len) = r) : frzR H (.sl i sz off len) = r := h
theorem frzR_tup {vs vs' : List AV} {H H1 : Hp} (h : frzs vs H = some (vs', H1)) : frzR H (.tup vs) = some (.tup vs', H1) := by
 simp only [frzR, h]
theorem flat_app {α : Type} {enc : α → List TV} {l : List α} {as : List α} {cs : List (List TV)} (h : as.map enc = cs) : flat enc l ++ List.map AV.tv (List.flatten cs) = flat enc (l ++ as) := by
 subst h; simp [flat]
/-- Two branches that come to one told state. -/
def mergeQ (T1 : Tm) (H1 : Hp) (p : Id) (n1 : Nat) : Exit → St → Prop := fun e s => e = .normal ∧ Gh s ⟨T1, H1, p, n1⟩
theorem at_mergel {E : En} {Q : Exit → St → Prop} {c : Code} {s : St} {p : Id} (T1 : Tm) (H1 : Hp) (n1 : Nat) (h : AT E c (mergeQ T1 H1 p n1) s) (hd : Q .normal ⟨T1, H1, p, n1⟩) : AT E c Q s :=
 at_post h fun e s' ⟨he, hg⟩ => ⟨_, hg, by subst he; exact hd⟩
def keepH (l : List Id) (H : Hp) : Hp := H.filter fun x => l.any fun i => decide (i = x.1)
theorem keepH_sub (l : List Id) (H : Hp) : ∀ id o, hget (keepH l H) id = some o → hget H id = some o := by
 intro id o
 induction H with
 | nil => intro h; exact h
 | cons x r ih =>
  obtain ⟨i, y⟩ := x
  intro h
  simp only [keepH, List.filter_cons] at h
  by_cases e : i = id
  ·subst e
   simp only [hget, if_true]
   split at h
   ·simpa [hget] using h
   ·rename_i hn
    have : hget (keepH l r) i = some o := h
    have hin : ∃ x ∈ keepH l r, x.1 = i := by
     clear ih hn h
     generalize keepH l r = K at this
     induction K with
     | nil => simp [hget] at this
     | cons z K ihk =>
      obtain ⟨j, w⟩ := z
      by_cases e : j = i
      ·exact ⟨(j, w), by simp, e⟩
      ·simp only [hget, if_neg e] at this
       obtain ⟨x, hx, hx2⟩ := ihk this
       exact ⟨x, by simp [hx], hx2⟩
    obtain ⟨x, hx, rfl⟩ := hin
    simp only [keepH, List.mem_filter] at hx
    exact absurd hx.2 hn
  ·simp only [hget, if_neg e]
   refine ih ?_
   split at h
   ·simp only [hget, if_neg e] at h; exact h
   ·exact h
theorem gh_merge {T T1 : Tm} {H H1 : Hp} {p : Id} {n n1 : Nat} (l : List Nat) (k : List Id) (hT : (1000000, tget T 1000000) :: l.map (fun t => (t, tget T t)) = T1) (hH : keepH k H = H1) (hn : Nat.ble n n1 = true) : mergeQ T1 H1 p n1 .normal ⟨T, H, p, n⟩ := by
 subst hT hH
 exact ⟨rfl, Gh.less (tget_tkeep l T) rfl (keepH_sub k H) (Nat.le_of_ble_eq_true hn)⟩
/-- A call that is walked where it stands. -/
theorem call_in {P : Program} {f : FuncId} {fn : Func} {c : Code} {args : List AV} {H : Hp} {q : Id} {v : AV} {H' : Hp} (rs : List ResultVar) (hf : P.funcs[f]? = some fn) (hb : fn.body = some c) (hn : (Nat.ble args.length fn.ntmps && Nat.ble fn.ntmps 1000000) = true) (hrs : fn.results.toList = rs)
  (h : AT ⟨P, none, fn.ntmps⟩ c (fun e s => (e = .normal ∨ e = .ret) ∧ leaveD (tget s.T 1000000) s.H fun H1 => resK P s.T H1 rs [] (fun vs => retV vs = v ∧ ∀ id o, hget H' id = some o → hget H1 id = some o)) ⟨argT args 0, H, q, 0⟩) : CallOK P f args H q fun v1 H1 => v1 = v ∧ H1 = H' := by
 subst hrs
 rw [Bool.and_eq_true] at hn
 intro B w0 σ ι w us hw hq hus
 have hc := call_of_at (H := H) (q := q) (post := fun v' H1 => v' = v ∧ ∀ id o, hget H' id = some o → hget H1 id = some o) hf hb ⟨Nat.le_of_ble_eq_true hn.1, Nat.le_of_ble_eq_true hn.2⟩ h
 refine ⟨trivial, fun cs hr => ?_⟩
 obtain ⟨e, w', fr, ⟨v', u, H1, σ', ι', he, ⟨hv, hH⟩, hvr, hwr, rest⟩, x⟩ := (hc B w0 σ ι w us hw hq hus).2 cs hr
 exact ⟨e, w', fr, ⟨v', u, H', σ', ι', he, ⟨hv, rfl⟩, hvr, hwr.weaken hH, rest⟩, x⟩
theorem fin_in {P : Program} {rs : List ResultVar} {v : AV} {e : Exit} {T : Tm} {H H' : Hp} {p : Id} {n : Nat} (he : e = .normal ∨ e = .ret) (k : List Id) (v1 : AV) (H1 : Hp) (hr : endB P T H rs = some (v1, H1)) (hv : v1 = v) (hk : keepH k H1 = H') :
  (fun (e : Exit) (s : St) => (e = .normal ∨ e = .ret) ∧ leaveD (tget s.T 1000000) s.H fun H1 => resK P s.T H1 rs [] (fun vs => retV vs = v ∧ ∀ id o, hget H' id = some o → hget H1 id = some o)) e ⟨T, H, p, n⟩ := by
 subst hk hv
 refine ⟨he, ?_⟩
 unfold endB at hr
 split at hr
 ·cases hr
 ·rename_i H2 hl
  split at hr
  ·cases hr
  ·rename_i vs hvs
   cases hr
   exact leaveB_ok hl (resB_ok hvs ⟨rfl, keepH_sub k _⟩)
end Go.Proofs.YtphmhelkojdlaaaDoor
namespace Go.Proofs.YtphmhelkojdlaaaDoor
open Go.RowKit
set_option linter.unusedSimpArgs false
set_option linter.unusedVariables false
/-- A piece of a function's code, by its place. -/
def codeAt : List Nat → Code → Code
 | [], c => c
 | 0 :: r, .seq a _ => codeAt r a
 | _ :: r, .seq _ b => codeAt r b
 | _ :: r, .block _ c => codeAt r c
 | _ :: r, .loop c => codeAt r c
 | _ :: r, .scope c => codeAt r c
 | 0 :: r, .cond _ a _ => codeAt r a
 | _ :: r, .cond _ _ b => codeAt r b
 | 0 :: r, .rangeFunc _ _ a _ => codeAt r a
 | _ :: r, .rangeFunc _ _ _ b => codeAt r b
 | _, c => c
def fcode (f : Func) (l : List Nat) : Code := codeAt l (f.body.getD .skip)
/-- The statement, its function's call told. -/
theorem at_rf {P : Program} {nt : Nat} {Q : Exit → St → Prop} {g : Operand} {ps : Array Tmp} {asg body : Code} {T : Tm} {H : Hp} {p : Id} {n : Nat} (f : FuncId) (cap : List AV) (v : AV) (H' : Hp) (T1 : Tm) (nt1 : Nat) (ps1 : List Nat) (asg1 body1 : Code) (l : List Nat) (k : List Id) (T2 : Tm) (H2 : Hp)
  (hg : evo T g = .fn (.func f) cap) (hgo : opdOk g = true) (hf : tFn P f = true)
  (hc : CallOK P f (.yl ((n + 1) :: p) :: cap) (((n + 1) :: p, .loop T nt ps.toList asg body .ready none) :: (n :: p, .dfr) :: H) ((n + 2) :: p) (fun v1 H1 => v1 = v ∧ H1 = H'))
  (hl : hget H' ((n + 1) :: p) = some (.loop T1 nt1 ps1 asg1 body1 .ready none))
  (hT : (1000000, dpush (tget T 1000000) (.ptr (n :: p) 0)) :: l.map (fun t => (t, tget T t)) = T2) (hl0 : l.contains 1000000 = false) (hH : keepH k (hset H' ((n + 1) :: p) .gone) = H2)
  (hk : Q .normal ⟨T2, H2, p, n + 3⟩) : AT ⟨P, none, nt⟩ (.rangeFunc g ps asg body) Q ⟨T, H, p, n⟩ := by
 subst hT hH
 refine at_post (Q' := fun e s => e = .normal ∧ s = ⟨(1000000, dpush (tget T 1000000) (.ptr (n :: p) 0)) :: T, hset H' ((n + 1) :: p) .gone, p, n + 3⟩) (at_rangeFunc hg hgo hf hc ?_) ?_
 ·rintro v1 H1 ⟨_, rfl⟩
  exact ⟨T1, nt1, ps1, asg1, body1, .ready, none, hl, by simp, rfl, rfl⟩
 ·rintro e s ⟨rfl, rfl⟩
  refine ⟨⟨(1000000, dpush (tget T 1000000) (.ptr (n :: p) 0)) :: l.map (fun t => (t, tget T t)), keepH k (hset H' ((n + 1) :: p) .gone), p, n + 3⟩, Gh.less (fun t => ?_) rfl (keepH_sub k _) (Nat.le_refl _), hk⟩
  simp only [tget]
  split
  ·exact .inl rfl
  ·rename_i hne
   clear hl0 hk
   induction l with
   | nil => exact .inr rfl
   | cons x l ih =>
    simp only [List.map_cons, tget]
    split
    ·rename_i e; subst e; exact .inl rfl
    ·exact ih
theorem yld_in {P : Program} {i : Id} {args : List AV} {H : Hp} {q : Id} {v : AV} {H' : Hp} (T : Tm) (nt : Nat) (ps : List Nat) (asg body : Code) (j : Option Code)
  (hi : hget H i = some (.loop T nt ps asg body .ready j)) (hn : (Nat.beq args.length ps.length && ps.all (fun t => Nat.blt t nt) && Nat.ble nt 1000000) = true)
  (h : ∀ l, AT ⟨P, some l, nt⟩ asg (fun e s => e = .normal ∧ ∃ T1 nt1 ps1 asg1 j1, hget s.H i = some (.loop T1 nt1 ps1 asg1 body .ready j1) ∧
   AT ⟨P, some l, nt⟩ body (roundQ i q (fun v1 H1 => v1 = v ∧ ∀ id o, hget H' id = some o → hget H1 id = some o)) ⟨s.T, hset s.H i (.loop T1 nt1 ps1 asg1 body .busy j1), s.p, s.n⟩) ⟨(1000000, .any) :: tsets ps args T, H, q, 0⟩) : YldOK P i args H q (fun v1 H1 => v1 = v ∧ H1 = H') := by
 simp only [Bool.and_eq_true] at hn
 have hn' : args.length = ps.length ∧ (∀ t ∈ ps, t < nt) ∧ nt ≤ 1000000 := by
  refine ⟨Nat.eq_of_beq_eq_true hn.1.1, fun t ht => ?_, Nat.le_of_ble_eq_true hn.2⟩
  exact Nat.le_of_ble_eq_true (List.all_eq_true.1 hn.1.2 t ht)
 have hy := yld_of_at (post := fun v1 H1 => v1 = v ∧ ∀ id o, hget H' id = some o → hget H1 id = some o) hi hn' (fun l => at_mono (h l) fun e s ⟨he, T1, nt1, ps1, asg1, j1, h1, h2⟩ => ⟨he, T1, nt1, ps1, asg1, body, j1, h1, h2⟩)
 intro B w0 σ ι w us l n hw hq hus hil
 obtain ⟨f, tmps, asg', body', h1, h2⟩ := hy B w0 σ ι w us l n hw hq hus hil
 refine ⟨f, tmps, asg', body', h1, h2.1, fun c cs hr => ?_⟩
 obtain ⟨e, w', ⟨v', u, H1, σ', ι', he, ⟨hv, hH⟩, hvr, hwr, rest⟩, x⟩ := h2.2 c cs hr
 exact ⟨e, w', ⟨v', u, H', σ', ι', he, ⟨hv, rfl⟩, hvr, hwr.weaken hH, rest⟩, x⟩
/-- The end of a round's assignment. -/
theorem asg_end {P : Program} {l nt : Nat} {i q : Id} {body : Code} {post : AV → Hp → Prop} {T : Tm} {H H1 : Hp} {p : Id} {n : Nat} (T1 : Tm) (nt1 : Nat) (ps1 : List Nat) (asg1 : Code) (j1 : Option Code)
  (h1 : hget H i = some (.loop T1 nt1 ps1 asg1 body .ready j1)) (hH : hset H i (.loop T1 nt1 ps1 asg1 body .busy j1) = H1) (h2 : AT ⟨P, some l, nt⟩ body (roundQ i q post) ⟨T, H1, p, n⟩) :
  (fun (e : Exit) (s : St) => e = .normal ∧ ∃ T1 nt1 ps1 asg1 j1, hget s.H i = some (.loop T1 nt1 ps1 asg1 body .ready j1) ∧
   AT ⟨P, some l, nt⟩ body (roundQ i q post) ⟨s.T, hset s.H i (.loop T1 nt1 ps1 asg1 body .busy j1), s.p, s.n⟩) .normal ⟨T, H, p, n⟩ := by
 subst hH
 exact ⟨rfl, T1, nt1, ps1, asg1, j1, h1, h2⟩
theorem round_end {i q : Id} {v : AV} {H' : Hp} {T : Tm} {H : Hp} {p : Id} {n : Nat} (k : List Id) (T1 : Tm) (nt1 : Nat) (ps1 : List Nat) (asg1 body1 : Code) (st : LoopState) (j1 : Option Code)
  (h1 : hget H i = some (.loop T1 nt1 ps1 asg1 body1 st j1)) (hv : v = .tv (.bool true)) (hH : keepH k (hset H i (.loop T1 nt1 ps1 asg1 body1 .ready none)) = H') :
  roundQ i q (fun v1 H1 => v1 = v ∧ ∀ id o, hget H' id = some o → hget H1 id = some o) .normal ⟨T, H, p, n⟩ := by
 subst hH hv
 exact ⟨T1, nt1, ps1, asg1, body1, st, j1, h1, rfl, keepH_sub k _⟩
theorem round_ret {i q : Id} {v : AV} {H' : Hp} {T : Tm} {H : Hp} {p : Id} {n : Nat} (k : List Id) (T1 : Tm) (nt1 : Nat) (ps1 : List Nat) (asg1 body1 : Code) (st : LoopState) (j1 : Option Code)
  (h1 : hget H i = some (.loop T1 nt1 ps1 asg1 body1 st j1)) (hv : v = .tv (.bool false)) (hH : keepH k (hset H i (.loop T1 nt1 ps1 asg1 body1 .done (some .ret))) = H') :
  roundQ i q (fun v1 H1 => v1 = v ∧ ∀ id o, hget H' id = some o → hget H1 id = some o) .ret ⟨T, H, p, n⟩ := by
 subst hH hv
 exact ⟨T1, nt1, ps1, asg1, body1, st, j1, h1, rfl, keepH_sub k _⟩
/-- A nil slice in a cell, told as an empty one of one's own. -/
theorem Gh.ownc {T : Tm} {H : Hp} {p : Id} {n : Nat} (i : Id) (j sz : Nat) (cells : List AV) (ro : Bool) (hi : hget H i = some (.row cells ro)) (hj : cells[j]? = some (.tv .nils)) :
  Gh ⟨T, H, p, n⟩ ⟨T, (n :: p, .row [] false) :: hset H i (.row (cells.set j (.sl (n :: p) sz 0 0)) ro), p, n + 1⟩ := by
 rintro E B w0 σ0 ι0 q ds a w ⟨σ, ι, hs⟩
 have hid : ι (n :: p) = none := hs.fr _ n (Nat.le_refl _) (List.suffix_refl _)
 have hle := wput_le (x := none) hid
 have hne : ∀ j, j ≠ n :: p → wput ι (n :: p) none j = ι j := fun j hj => by unfold wput; rw [if_neg hj]
 have hw := hs.wr
 have hw1 : WR B w0 σ ι (hset H i (.row (cells.set j (.sl (n :: p) sz 0 0)) ro)) w := by
  have was : ∀ k y, hget (hset H i (.row (cells.set j (.sl (n :: p) sz 0 0)) ro)) k = some y → (k = i ∧ y = .row (cells.set j (.sl (n :: p) sz 0 0)) ro) ∨ (k ≠ i ∧ hget H k = some y) := by
   intro k y hk
   rw [hget_hset] at hk
   by_cases e : i = k
   ·rw [if_pos e, hi] at hk; simp at hk; exact .inl ⟨e.symm, hk.symm⟩
   ·rw [if_neg e] at hk; exact .inr ⟨fun e2 => e e2.symm, hk⟩
  have was' : ∀ k y, hget (hset H i (.row (cells.set j (.sl (n :: p) sz 0 0)) ro)) k = some y → ∃ y', hget H k = some y' := by
   intro k y hk
   rcases was k y hk with ⟨rfl, _⟩ | ⟨_, h⟩
   ·exact ⟨_, hi⟩
   ·exact ⟨_, h⟩
  refine ⟨hw.hB, hw.below, ?_, ?_, ?_, ?_, hw.sure, ?_, hw.newf⟩
  ·intro k y b m hk hkb
   rcases was k y hk with ⟨rfl, rfl⟩ | ⟨_, h⟩
   ·obtain ⟨h1, obj, h2, arr, e, h3, h4, h5, h6⟩ := hw.obj _ _ b m hi hkb
    refine ⟨h1, obj, h2, arr, e, h3, h4, by simpa using h5, fun x c hx => ?_⟩
    rw [List.getElem?_set] at hx
    by_cases exj : j = x
    ·subst exj
     rw [if_pos rfl] at hx
     split at hx
     ·cases hx
      obtain ⟨u, hu, hv⟩ := h6 j _ hj
      refine ⟨u, hu, ?_⟩
      cases hv with
      | tv hv => cases hv; exact .sl0 _ _ _ _
     ·cases hx
    ·rw [if_neg exj] at hx; exact h6 x c hx
   ·exact hw.obj k y b m h hkb
  ·intro k y hk hkb
   rcases was k y hk with ⟨rfl, rfl⟩ | ⟨_, h⟩
   ·obtain ⟨ro', e⟩ := hw.ghost _ _ hi hkb
    cases e; simp at hj
   ·exact hw.ghost k y h hkb
  ·intro k y hk
   obtain ⟨y', h⟩ := was' k y hk
   exact hw.dom k y' h
  ·intro k k' y y' b m m' h1 h2
   obtain ⟨y1, h1⟩ := was' _ _ h1
   obtain ⟨y2, h2⟩ := was' _ _ h2
   exact hw.inj k k' y1 y2 b m m' h1 h2
  ·intro ad v hsv k y b m hk hkb hb
   rcases was k y hk with ⟨rfl, rfl⟩ | ⟨_, h⟩
   ·obtain ⟨cs, e, hlt⟩ := hw.stab ad v hsv _ _ b m hi hkb hb
    cases e; exact ⟨_, rfl, by simpa using hlt⟩
   ·exact hw.stab ad v hsv k y b m h hkb hb
 refine ⟨σ, wput ι (n :: p) none, hs.le, fun j y h => hle _ _ (hs.lei j y h), fun k hk => ?_, hw1.empty _ hid false, fun k => (hs.tr k).mono (fun _ _ h => h) hle, hs.nt, hs.qp, fun x k hk hx => ?_, hs.df.mono (fun _ _ h => h) hle, hs.nk⟩
 ·rw [hne k (fun e => by subst e; exact hk (hs.qp.trans (List.suffix_cons _ _)))]; exact hs.out k hk
 ·have hk' : n + 1 ≤ k := hk
  rw [hne x (fun e => by subst e; have := suffix_cons_ne hx (List.suffix_refl _); omega)]
  exact hs.fr x k (by show n ≤ k; omega) hx

theorem at_keepB {E : En} {Q : Exit → St → Prop} {c : Code} {T : Tm} {H : Hp} {p : Id} {n : Nat} (l : List Nat) (T1 : Tm) (h : tkeep l T = T1) (hk : AT E c Q ⟨T1, H, p, n⟩) : AT E c Q ⟨T, H, p, n⟩ := by
 subst h; exact at_pre (Gh.keep l T H p n) hk
/-! ### Elements of a list of one's own -/
theorem getD_of_lt {α : Type} {l : List α} {i : Nat} {d : α} (h : i < l.length) : l.getD i d = l[i] := by
 rw [List.getD_eq_getElem?_getD, List.getElem?_eq_getElem h]; rfl
theorem flat_append {α : Type} {enc : α → List TV} (a b : List α) : flat enc (a ++ b) = flat enc a ++ flat enc b := by simp [flat]
theorem flat_cons {α : Type} {enc : α → List TV} (a : α) (b : List α) : flat enc (a :: b) = (enc a).map .tv ++ flat enc b := by simp [flat]
theorem flat_split {α : Type} {enc : α → List TV} {sz : Nat} (hz : ∀ a, (enc a).length = sz) {l : List α} {i : Nat} (h : i < l.length) :
  flat enc l = flat enc (l.take i) ++ ((enc l[i]).map .tv ++ flat enc (l.drop (i + 1))) ∧ (flat enc (l.take i)).length = i * sz := by
 refine ⟨?_, by rw [flat_len hz, List.length_take, Nat.min_eq_left (by omega)]⟩
 have e : l = l.take i ++ (l[i] :: l.drop (i + 1)) := by simp
 rw [← flat_cons, ← flat_append, ← e]
theorem evLoad_flat {P : Program} {H : Hp} {t : TypeId} {id : Id} {α : Type} {enc : α → List TV} {sz : Nat} {l : List α} {ro : Bool} {i : Nat} {d : α} (hg : tAgg P t = some true) (hs : tSz P t = some sz) (hH : hget H id = some (.row (flat enc l) ro)) (hz : ∀ a, (enc a).length = sz) (h : i < l.length) :
  evLoad P H t (.ptr id ((0 + i) * sz)) = .val (.agg ((enc (l.getD i d)).map .tv)) .no := by
 obtain ⟨e1, e2⟩ := flat_split hz h
 have e3 : ((flat enc l).drop ((0 + i) * sz)).take sz = (enc l[i]).map .tv := by
  rw [e1, Nat.zero_add, List.drop_append_of_le_length (by omega), List.drop_of_length_le (by omega), List.nil_append, List.take_append_of_le_length (by simp [hz]), List.take_of_length_le (by simp [hz])]
 simp only [evLoad, hg, hs, hH, e3, chk]
 rw [if_pos ⟨by simp [hz], .inl trivial⟩, getD_of_lt h]
 rfl
theorem evStore_flat {P : Program} {H : Hp} {t : TypeId} {id : Id} {α : Type} {enc : α → List TV} {sz : Nat} {l : List α} {i : Nat} {a : α} (hs : tSz P t = some sz) (hH : hget H id = some (.row (flat enc l) false)) (hz : ∀ a, (enc a).length = sz) (hone : ∀ a, ((enc a).map AV.tv).all AV.one = true) (h : i < l.length) :
  evStore P H t (.ptr id ((0 + i) * sz)) (.agg ((enc a).map .tv)) = .val (.tup []) (.upd id (.row (flat enc (l.set i a)) false)) := by
 obtain ⟨e1, e2⟩ := flat_split hz h
 have hl : ((enc a).map AV.tv).length = sz := by simp [hz]
 have e3 : splice (flat enc l) ((0 + i) * sz) ((enc a).map .tv) = flat enc (l.set i a) := by
  unfold splice
  rw [hl, e1, Nat.zero_add, List.take_append_of_le_length (by omega), List.take_of_length_le (by omega), ← List.drop_drop, List.drop_append_of_le_length (by omega), List.drop_of_length_le (Nat.le_of_eq e2), List.nil_append, List.drop_append_of_le_length (by simp [hz]), List.drop_of_length_le (by simp [hz]), List.nil_append]
  rw [List.set_eq_take_append_cons_drop, if_pos h]
  rw [flat_append, flat_cons]
  simp
 have e4 : (0 + i) * sz + sz ≤ (flat enc l).length := by
  rw [flat_len hz, Nat.zero_add, ← Nat.succ_mul]; exact Nat.mul_le_mul_right _ h
 simp only [evStore, hs, hH, AV.cells, e3, chk]
 rw [if_pos ⟨hl, hone a, e4⟩]
theorem frz_flat2 {α : Type} {H : Hp} {i : Id} {enc : α → List TV} {l : List α} {sz len : Nat} {ro : Bool} (hh : hget H i = some (.row (flat enc l) ro)) (hz : ∀ a, (enc a).length = sz) (h0 : 0 < sz) (hl : l.length = len) :
  frzV H (.sl i sz 0 len) = some (.tv (.sli sz (l.map enc)), hset H i (.row (flat enc l) true)) := by
 subst hl; exact frz_flat hh hz h0
/-! ### Maps from texts to truth values -/
def mB (m : List (ByteArray × Bool)) : List (ByteArray × AV) := m.map fun x => (x.1, .tv (.bool x.2))
def mgetB : List (ByteArray × Bool) → ByteArray → Bool
 | [], _ => false
 | (k, v) :: r, q => if k = q then v else mgetB r q
def mputB : List (ByteArray × Bool) → ByteArray → Bool → List (ByteArray × Bool)
 | [], q, x => [(q, x)]
 | (k, v) :: r, q, x => if k = q then (k, x) :: r else (k, v) :: mputB r q x
theorem mB_get (m : List (ByteArray × Bool)) (q : ByteArray) : (sget (mB m) q).getD (.tv (.bool false)) = .tv (.bool (mgetB m q)) := by
 induction m with
 | nil => rfl
 | cons x r ih =>
  obtain ⟨k, v⟩ := x
  simp only [mB, List.map_cons, sget, mgetB]
  split
  ·rfl
  ·exact ih
theorem mB_put (m : List (ByteArray × Bool)) (q : ByteArray) (b : Bool) : sput (mB m) q (.tv (.bool b)) = mB (mputB m q b) := by
 induction m with
 | nil => rfl
 | cons x r ih =>
  obtain ⟨k, v⟩ := x
  simp only [mB, List.map_cons, sput, mputB]
  split
  ·rfl
  ·simp only [mB] at ih; rw [ih]; rfl
theorem clO_mB (m : List (ByteArray × Bool)) : clO (.smap (mB m)) := by
 intro x hx
 unfold mB at hx
 obtain ⟨y, _, rfl⟩ := List.mem_map.1 hx
 exact ⟨_, rfl⟩
theorem mB_len (m : List (ByteArray × Bool)) : (mB m).length = m.length := by simp [mB]
end Go.Proofs.YtphmhelkojdlaaaDoor
namespace Go.Proofs.YtphmhelkojdlaaaDoor
open Go.RowKit Go.ChangeShapes Go.WideShapes Go.ChangeAt
set_option linter.unusedSimpArgs false
set_option linter.unusedVariables false
def factsOf (W : World) : Facts := fun a v => W.cell? a = some v
def CR (σ : Facts) (e : List TV) (cs : List Value) : Prop := cs.length = e.length ∧ ∀ (j : Nat) (c : TV) (u : Value), e[j]? = some c → cs[j]? = some u → TR σ c u
def Rd {H : Type} (enc : TypeId × Value → H) (P : Program) (W : World) (fuel : Nat) (t : TypeId) {α : Type} (f : α → List TV) : Prop :=
 ∀ cs x, DataW.trod enc P W 0 (fun _ => true) true fuel t cs = some x → ∃ a : α, CR (factsOf W) (f a) cs
section
variable {H : Type} {enc : TypeId × Value → H} {P : Program} {W : World}
theorem rd_zero {t : TypeId} {α : Type} {f : α → List TV} : Rd enc P W 0 t f := fun cs x h => by simp [DataW.trod] at h
theorem CR.one {σ : Facts} {c : TV} {u : Value} (h : TR σ c u) : CR σ [c] [u] := by
 refine ⟨rfl, fun j c' u' h1 h2 => ?_⟩
 cases j with
 | zero => simp at h1 h2; subst h1 h2; exact h
 | succ j => simp at h1
theorem CR.nil {σ : Facts} : CR σ [] [] := ⟨rfl, fun j c u h => by simp at h⟩
theorem CR.app {σ : Facts} {e r : List TV} {cs : List Value} {off n : Nat} (h : CR σ e ((cs.drop off).take n)) (hn : e.length = n) (hr : CR σ r (cs.drop (off + n))) : CR σ (e ++ r) (cs.drop off) := by
 have hl := h.1
 rw [hn, List.length_take] at hl
 have hsplit : cs.drop off = (cs.drop off).take n ++ cs.drop (off + n) := by
  rw [← List.drop_drop, List.take_append_drop]
 rw [hsplit]
 refine ⟨by rw [List.length_append, List.length_append, h.1, hr.1], fun j c u h1 h2 => ?_⟩
 have hl2 : ((cs.drop off).take n).length = e.length := h.1
 by_cases hj : j < e.length
 ·rw [List.getElem?_append_left hj] at h1
  rw [List.getElem?_append_left (by omega)] at h2
  exact h.2 j c u h1 h2
 ·rw [List.getElem?_append_right (by omega)] at h1
  rw [List.getElem?_append_right (by omega), hl2] at h2
  exact hr.2 _ c u h1 h2
theorem rd_int {fuel : Nat} {t : TypeId} {k : IntKind} (ht : P.underlying t = some (.int k)) : Rd enc P W fuel t (fun n : Int => [.int k n]) := by
 intro cs x h
 cases fuel with
 | zero => simp [DataW.trod] at h
 | succ fuel =>
  unfold DataW.trod at h
  rw [ht] at h
  split at h <;> simp_all
  rename_i k' k'' n e1
  obtain ⟨⟨rfl, _⟩, _⟩ := h
  subst e1
  exact ⟨n, CR.one (.int _ n)⟩
theorem rd_bool {fuel : Nat} {t : TypeId} (ht : P.underlying t = some .bool) : Rd enc P W fuel t (fun b : Bool => [.bool b]) := by
 intro cs x h
 cases fuel with
 | zero => simp [DataW.trod] at h
 | succ fuel =>
  unfold DataW.trod at h
  rw [ht] at h
  split at h <;> try (simp_all; done)
  rename_i b _
  exact ⟨b, CR.one (.bool b)⟩
theorem rd_str {fuel : Nat} {t : TypeId} (ht : P.underlying t = some .string) : Rd enc P W fuel t (fun s : ByteArray => [.str s]) := by
 intro cs x h
 cases fuel with
 | zero => simp [DataW.trod] at h
 | succ fuel =>
  unfold DataW.trod at h
  rw [ht] at h
  split at h <;> simp_all
  rename_i s
  exact ⟨s, CR.one (.str s (by have := h.1; simp [maxLen] at this; omega))⟩
theorem mapM_get {α β : Type} {f : α → Option β} : ∀ {l : List α} {r : List β}, l.mapM f = some r → r.length = l.length ∧ ∀ (j : Nat) (x : α), l[j]? = some x → ∃ y, r[j]? = some y ∧ f x = some y := by
 intro l
 induction l with
 | nil => intro r h; simp at h; subst h; exact ⟨rfl, fun j x h => by simp at h⟩
 | cons a l ih =>
  intro r h
  rw [List.mapM_cons] at h
  cases ha : f a with
  | none => rw [ha] at h; simp at h
  | some y =>
   rw [ha] at h
   cases hl : l.mapM f with
   | none => rw [hl] at h; simp at h
   | some r' =>
    rw [hl] at h; simp at h; subst h
    obtain ⟨g1, g2⟩ := ih hl
    refine ⟨by simp [g1], fun j x hx => ?_⟩
    cases j with
    | zero => simp at hx; subst hx; exact ⟨y, rfl, ha⟩
    | succ j => simp at hx; obtain ⟨z, h1, h2⟩ := g2 j x hx; exact ⟨z, by simpa using h1, h2⟩
theorem rd_slice {fuel : Nat} {t e : TypeId} {α : Type} {f : α → List TV} {sz : Nat} (ht : P.underlying t = some (.slice e)) (hc : P.cellsOf e = sz) (hz : ∀ a, (f a).length = sz) (he : Rd enc P W fuel e f) :
  Rd enc P W (fuel + 1) t (fun l : List α => [.sli sz (l.map f)]) := by
 intro cs x h
 unfold DataW.trod at h
 rw [ht] at h
 split at h <;> try (simp_all; done)
 ·rename_i e1 e2
  refine ⟨[], CR.one ?_⟩
  have := TR.sli (σ := factsOf W) sz [] none 0 (fun _ _ => undef) (by simp) (by simp) (fun _ => rfl) (fun r hr => by simp at hr) (fun i j r c h => by simp at h) (fun a i j r c _ h => by simp at h)
  exact this
 ·rename_i e' a len cap e1
  have : e' = e := by simpa using e1.symm
  subst this
  simp only at h
  split at h
  ·rename_i hcond
   cases hm : (List.range len).mapM (fun i => (W.cells? 0 (a.add (i * P.cellsOf e')) (P.cellsOf e')).bind (DataW.trod enc P W 0 (fun _ => true) true fuel e')) with
   | none => rw [hm] at h; simp at h
   | some elems =>
    obtain ⟨_, hget⟩ := mapM_get hm
    have hrow : ∀ i, i < len → ∃ (cells : List Value) (y : α), W.cells? 0 (a.add (i * sz)) sz = some cells ∧ CR (factsOf W) (f y) cells := by
     intro i hi
     obtain ⟨y, _, hy⟩ := hget i i (List.getElem?_range hi)
     rw [hc] at hy
     cases hcs : W.cells? 0 (a.add (i * sz)) sz with
     | none => rw [hcs] at hy; simp at hy
     | some cells =>
      rw [hcs] at hy
      obtain ⟨z, hz'⟩ := he cells _ hy
      exact ⟨cells, z, rfl, hz'⟩
    have hex : ∃ l : List α, l.length = len ∧ ∀ i, i < len → ∃ (cells : List Value) (y : α), l[i]? = some y ∧ W.cells? 0 (a.add (i * sz)) sz = some cells ∧ CR (factsOf W) (f y) cells := by
     refine ⟨(List.range len).attach.map (fun i => Classical.choose (Classical.choose_spec (hrow i.1 (List.mem_range.1 i.2)))), by simp, fun i hi => ?_⟩
     refine ⟨_, _, ?_, Classical.choose_spec (Classical.choose_spec (hrow i hi))⟩
     simp [hi]
    obtain ⟨l, hl, hls⟩ := hex
    refine ⟨l, CR.one ?_⟩
    have hcell : ∀ i j r c, (l.map f)[i]? = some r → r[j]? = some c → ∃ u, W.cell? (a.add (i * sz + j)) = some u ∧ TR (factsOf W) c u := by
     intro i j r c h1 h2
     rw [List.getElem?_map] at h1
     cases hli : l[i]? with
     | none => rw [hli] at h1; simp at h1
     | some y =>
      rw [hli] at h1; simp at h1; subst h1
      have hi : i < len := by rw [← hl]; exact (List.getElem?_eq_some_iff.1 hli).1
      obtain ⟨cells, y', g1, g2, g3⟩ := hls i hi
      rw [hli] at g1; cases g1
      have hj : j < sz := by rw [← hz y]; exact (List.getElem?_eq_some_iff.1 h2).1
      unfold World.cells? at g2
      rw [if_pos (Nat.zero_le _)] at g2
      obtain ⟨_, hg⟩ := mapM_get g2
      obtain ⟨u, hu1, hu2⟩ := hg j j (List.getElem?_range hj)
      refine ⟨u, ?_, g3.2 j c u h2 hu1⟩
      rw [← hu2]
      congr 1
      unfold Addr.add
      by_cases e1 : i * sz = 0
      ·rw [e1]; simp
      ·by_cases e2 : j = 0
       ·subst e2; simp
       ·have : i * sz + j ≠ 0 := by omega
        simp [e1, e2, this, Nat.add_assoc]
    have hlen : (l.map f).length = len := by simp [hl]
    rw [← hlen]
    have hcond' := hcond
    refine .sli sz _ (some a) cap (fun i j => (W.cell? (a.add (i * sz + j))).getD undef) (by rw [hlen]; exact hcond.2.1) (by rw [hlen]; have := hcond.2.2; have := hcond.2.1; simp [maxLen] at *; omega) (fun e => by cases e) (fun r hr => by
     obtain ⟨y, _, rfl⟩ := List.mem_map.1 hr; exact hz y) (fun i j r c h1 h2 => ?_) (fun a' i j r c ha h1 h2 => ?_)
    ·obtain ⟨u, h3, h4⟩ := hcell i j r c h1 h2
     rw [h3]; exact h4
    ·cases ha
     obtain ⟨u, h3, h4⟩ := hcell i j r c h1 h2
     unfold factsOf
     rw [h3]; rfl
  ·simp at h
theorem rd_fields {fuel : Nat} {t : TypeId} {fs : Array Field} {cs : List Value} {x : DataW H × List MemPlace} (ht : P.underlying t = some (.struct fs)) (h : DataW.trod enc P W 0 (fun _ => true) true (fuel + 1) t cs = some x) :
  cs.length = P.cellsOf t ∧ ∀ (j : Nat) (fd : Field), fs[j]? = some fd → ∃ y, DataW.trod enc P W 0 (fun _ => true) true fuel fd.type ((cs.drop fd.offset).take (P.cellsOf fd.type)) = some y := by
 unfold DataW.trod at h
 rw [ht] at h
 split at h <;> try (simp_all; done)
 rename_i cs0 x1 cs' fs' e1
 have : fs' = fs := by simpa using e1.symm
 subst this
 split at h
 ·rename_i hl
  refine ⟨hl, fun j fd hfd => ?_⟩
  cases hm : fs'.toList.mapM (fun f => DataW.trod enc P W 0 (fun _ => true) true fuel f.type ((cs0.drop f.offset).take (P.cellsOf f.type))) with
  | none => rw [hm] at h; simp at h
  | some ys =>
   obtain ⟨_, hg⟩ := mapM_get hm
   obtain ⟨y, _, hy⟩ := hg j fd (by simpa using hfd)
   exact ⟨y, hy⟩
 ·simp at h
theorem CR.fin {σ : Facts} {cs : List Value} {n : Nat} (h : cs.length = n) : CR σ [] (cs.drop n) := by
 refine ⟨by simp [h], fun j c u h1 => by simp at h1⟩
theorem rd_field {fuel : Nat} {fs : Array Field} {cs : List Value} {α : Type} {f : α → List TV} (hf : ∀ (j : Nat) (fd : Field), fs[j]? = some fd → ∃ y, DataW.trod enc P W 0 (fun _ => true) true fuel fd.type ((cs.drop fd.offset).take (P.cellsOf fd.type)) = some y)
  (j t off n : Nat) (hfd : (fs[j]?).map (fun x => (x.type, x.offset)) = some (t, off)) (hc : P.cellsOf t = n) (r : Rd enc P W fuel t f) : ∃ a, CR (factsOf W) (f a) ((cs.drop off).take n) := by
 cases hx : fs[j]? with
 | none => rw [hx] at hfd; simp at hfd
 | some fd =>
  rw [hx] at hfd; simp at hfd
  obtain ⟨y, hy⟩ := hf j fd hx
  rw [hfd.1, hfd.2, hc] at hy
  exact r _ _ hy
theorem CR.vrs {σ : Facts} {ι : Where} {e : List TV} {cs : List Value} (h : CR σ e cs) : VRs σ ι (e.map .tv) cs := by
 refine ⟨by simp [h.1], fun j c u h1 h2 => ?_⟩
 rw [List.getElem?_map] at h1
 cases hc : e[j]? with
 | none => rw [hc] at h1; simp at h1
 | some t => rw [hc] at h1; simp at h1; subst h1; exact .tv (h.2 j t u hc h2)
theorem CR.vr {σ : Facts} {ι : Where} {c : TV} {u : Value} (h : CR σ [c] [u]) : VR σ ι (.tv c) u := .tv (h.2 0 c u rfl rfl)
/-- An argument of one cell. -/
theorem arg_one {t : TypeId} {v : Value} {d : DataW H} {p : List MemPlace} {α : Type} {f : α → TV} {ι : Where} (hv : v.cells.toList = [v]) (hr : ∀ fuel, Rd enc P W fuel t (fun a => [f a])) (h : DataW.Trod enc P W 0 (fun _ => true) true t v d p) : ∃ a, VR (factsOf W) ι (.tv (f a)) v := by
 obtain ⟨fuel, hf⟩ := h
 rw [hv] at hf
 obtain ⟨a, ha⟩ := hr fuel _ _ hf
 exact ⟨a, ha.vr⟩
/-- An argument that is a struct. -/
theorem arg_agg {t : TypeId} {us : Array Value} {d : DataW H} {p : List MemPlace} {α : Type} {f : α → List TV} {ι : Where} (hr : ∀ fuel, Rd enc P W fuel t f) (h : DataW.Trod enc P W 0 (fun _ => true) true t (.agg us) d p) : ∃ a, VR (factsOf W) ι (.agg ((f a).map .tv)) (.agg us) := by
 obtain ⟨fuel, hf⟩ := h
 obtain ⟨a, ha⟩ := hr fuel _ _ hf
 have hvs := ha.vrs (ι := ι)
 have e : us = us.toList.toArray := by simp
 refine ⟨a, ?_⟩
 rw [e]
 exact .agg _ _ hvs.1 hvs.2
theorem rd_ext {fuel : Nat} {t : TypeId} {α β : Type} {f : α → List TV} {g : β → List TV} (h : Rd enc P W fuel t f) (k : ∀ a, ∃ b, g b = f a) : Rd enc P W fuel t g := by
 intro cs x hx
 obtain ⟨a, ha⟩ := h cs x hx
 obtain ⟨b, hb⟩ := k a
 exact ⟨b, by rw [hb]; exact ha⟩
end
/-- A pure contract, called at the law's start. -/
theorem law_calls {P : Program} {f : FuncId} {args : List AV} {b : Bool} {W : World} {us : Array Value} (h : PureCall P f args (.tv (.bool b))) (ha : VRs (factsOf W) (fun _ => none) args us.toList) :
  Calls P f us W fun e W' => e = .returned (.bool b) ∧ Below W.heap.size W W' := by
 have hw : WR ⟨W.heap.size, factsOf W, fun _ => False⟩ W (factsOf W) (fun _ => none) [] W := by
  refine ⟨Nat.le_refl _, ⟨⟨rfl, rfl, rfl, Nat.le_refl _, fun k _ => rfl⟩, fun _ h => h.elim⟩, ?_, ?_, ?_, ?_, fun a v h => h, ?_, fun a v h => .inl h⟩
  ·intro id o b n h; simp [hget] at h
  ·intro id o h; simp [hget] at h
  ·intro id o h; simp [hget] at h
  ·intro id id' o o' b n n' h; simp [hget] at h
  ·intro a v hs id o b n h; simp [hget] at h
 have hc := h [] [] ⟨W.heap.size, factsOf W, fun _ => False⟩ W (factsOf W) (fun _ => none) W us.toList hw (fun _ _ => rfl) ha
 have hc' : CallsIn Fence.wide 0 P f us W fun e W' => e = .returned (.bool b) ∧ Below W.heap.size W W' := by
  refine ⟨trivial, fun cs hr => ?_⟩
  obtain ⟨e, w', fr, ⟨v, u, H', σ', ι', he, ⟨hv, hH⟩, hvr, hwr, _⟩, x⟩ := hc.2 cs hr
  subst hv
  refine ⟨e, w', fr, ⟨?_, hwr.below.below⟩, by simpa using x⟩
  cases hvr with
  | tv ht => cases ht; exact he
 exact callsIn_wide.1 hc'
end Go.Proofs.YtphmhelkojdlaaaDoor
namespace Go.Proofs.YtphmhelkojdlaaaDoor
open Go.RowKit
set_option linter.unusedSimpArgs false
set_option linter.unusedVariables false
theorem WR.rnG {B : Base} {w0 w : World} {σ : Facts} {ι ι' : Where} {H : Hp} {s : Sl} {cl : List Id} (key : ∀ i j, slk s i = some j → ι' j = ι i) (hcl : clP cl H) (h : WR B w0 σ ι H w) : WR B w0 σ ι' (rnH s cl H) w := by
 have hmap : ∀ i j, slk s i = some j → ∀ x, ι i = some x → ι' j = some x := fun i j hj x hx => by rw [key i j hj]; exact hx
 refine ⟨h.hB, h.below, ?_, ?_, ?_, ?_, h.sure, ?_, h.newf⟩
 ·intro j o b n ho hi
  obtain ⟨i, o1, g1, g2, rfl⟩ := hget_rnH ho
  rw [key i j g2] at hi
  obtain ⟨k1, obj, k2, k3⟩ := h.obj i o1 b n g1 hi
  refine ⟨k1, obj, k2, ?_⟩
  unfold rnO
  cases hc : cl.any (fun j => decide (j = i)) with
  | true => exact k3.cl (clP_get hcl g1 hc)
  | false => exact k3.rn hmap
 ·intro j o ho hi
  obtain ⟨i, o1, g1, g2, rfl⟩ := hget_rnH ho
  rw [key i j g2] at hi
  obtain ⟨ro, rfl⟩ := h.ghost i o1 g1 hi
  exact ⟨ro, by unfold rnO; cases cl.any (fun j => decide (j = i)) <;> rfl⟩
 ·intro j o ho
  obtain ⟨i, o1, g1, g2, rfl⟩ := hget_rnH ho
  rw [key i j g2]; exact h.dom i o1 g1
 ·intro j j' o o' b n n' ho ho' hi hi'
  obtain ⟨i, o1, g1, g2, rfl⟩ := hget_rnH ho
  obtain ⟨i', o1', g1', g2', rfl⟩ := hget_rnH ho'
  rw [key i j g2] at hi
  rw [key i' j' g2'] at hi'
  have := h.inj i i' o1 o1' b n n' g1 g1' hi hi'
  subst this
  rw [g2] at g2'; cases g2'; rfl
 ·intro a v hsv j o b n ho hi hb
  obtain ⟨i, o1, g1, g2, rfl⟩ := hget_rnH ho
  rw [key i j g2] at hi
  obtain ⟨cells, rfl, hlt⟩ := h.stab a v hsv i o1 b n g1 hi hb
  unfold rnO
  cases cl.any (fun j => decide (j = i)) with
  | true => exact ⟨_, rfl, hlt⟩
  | false => exact ⟨_, rfl, by rw [rnL_map, List.length_map]; exact hlt⟩
/-- Ids that go in: none of the new ones lies under q, no two are the same. -/
def siOk (q : Id) : Sl → Bool
 | [] => true
 | (i, j) :: r => (!sufB q j && (sinv r j).isNone) && siOk q r
/-- Ids that come out: under q', or the ones that went in. -/
def soOk (q' : Id) (si : Sl) : Sl → Bool
 | [] => true
 | (i, k) :: r => ((sufB q' k || decide (slk si k = some i)) && (sinv r k).isNone) && soOk q' si r
theorem siOk_spec {q : Id} {s : Sl} (h : siOk q s = true) : (∀ i j, slk s i = some j → sinv s j = some i) ∧ ∀ i j, (i, j) ∈ s → ¬ q <:+ j := by
 induction s with
 | nil => exact ⟨fun i j h => by simp [slk] at h, fun i j h => by simp at h⟩
 | cons x r ih =>
  obtain ⟨a, b⟩ := x
  simp only [siOk, Bool.and_eq_true, Option.isNone_iff_eq_none, Bool.not_eq_true'] at h
  obtain ⟨⟨h1, h2⟩, h3⟩ := h
  obtain ⟨g1, g2⟩ := ih h3
  refine ⟨fun i j hl => ?_, fun i j hm => ?_⟩
  ·simp only [slk] at hl
   simp only [sinv]
   split at hl
   ·rename_i e; subst e; cases hl; rw [if_pos rfl]
   ·have g := g1 i j hl
    rw [if_neg (fun e => by subst e; rw [h2] at g; cases g)]
    exact g
  ·simp only [List.mem_cons, Prod.mk.injEq] at hm
   rcases hm with ⟨rfl, rfl⟩ | hm
   ·intro hs; rw [(sufB_iff q j).2 hs] at h1; cases h1
   ·exact g2 i j hm
theorem soOk_spec {q' : Id} {si s : Sl} (h : soOk q' si s = true) : ∀ i k, slk s i = some k → sinv s k = some i ∧ (q' <:+ k ∨ slk si k = some i) := by
 induction s with
 | nil => intro i j h; simp [slk] at h
 | cons x r ih =>
  obtain ⟨a, b⟩ := x
  simp only [soOk, Bool.and_eq_true, Option.isNone_iff_eq_none, Bool.or_eq_true, decide_eq_true_eq] at h
  obtain ⟨⟨h1, h2⟩, h3⟩ := h
  intro i k hl
  simp only [slk] at hl
  simp only [sinv]
  split at hl
  ·rename_i e; subst e; cases hl
   exact ⟨by rw [if_pos rfl], h1.imp (sufB_iff _ _).1 id⟩
  ·obtain ⟨g1, g2⟩ := ih h3 i k hl
   refine ⟨?_, g2⟩
   rw [if_neg (fun e => by subst e; rw [h2] at g1; cases g1)]
   exact g1
/-- A contract with one answer, under other ids. -/
theorem call_mv {P : Program} {f : FuncId} {args args2 : List AV} {H H2 H' H2' : Hp} {q q' : Id} {v v2 : AV} (si so : Sl) (cl cl' : List Id) (h : CallOK P f args H q (fun v1 H1 => v1 = v ∧ H1 = H'))
  (hok : (siOk q si && soOk q' si so) = true) (hH : rnH si cl H2 = H) (hcl : clP cl H2) (ha : args2.map (AV.rn (slk si)) = args) (hH' : rnH so cl' H' = H2') (hcl' : clP cl' H') (hv : v.rn (slk so) = v2) :
  CallOK P f args2 H2 q' (fun v1 H1 => v1 = v2 ∧ H1 = H2') := by
 simp only [Bool.and_eq_true] at hok
 obtain ⟨hi1, hi2⟩ := siOk_spec hok.1
 have ho := soOk_spec hok.2
 intro B w0 σ ι w us hw hq hus
 -- what goes in
 let ι0 : Where := fun j => match sinv si j with
  | some i => ι i
  | none => none
 have key0 : ∀ i j, slk si i = some j → ι0 j = ι i := fun i j hj => by
  show (match sinv si j with | some i => ι i | none => none) = _
  rw [hi1 i j hj]
 have hw0 : WR B w0 σ ι0 H w := by rw [← hH]; exact hw.rnG key0 hcl
 have hq0 : ∀ j, q <:+ j → ι0 j = none := fun j hj => by
  show (match sinv si j with | some i => ι i | none => none) = none
  cases hs : sinv si j with
  | none => rfl
  | some i => exact absurd hj (hi2 i j (sinv_slk hs))
 have hus0 : VRs σ ι0 args us := by
  rw [← ha]
  refine ⟨by rw [List.length_map]; exact hus.1, fun j c u h1 h2 => ?_⟩
  rw [List.getElem?_map] at h1
  cases hc : args2[j]? with
  | none => rw [hc] at h1; cases h1
  | some c' =>
   rw [hc] at h1; cases h1
   exact (hus.2 j c' u hc h2).rn fun i j hj x hx => by rw [key0 i j hj]; exact hx
 refine ⟨(h B w0 σ ι0 w us hw0 hq0 hus0).1, fun cs hr => ?_⟩
 obtain ⟨e, w', fr, ⟨v1, u, H1, σ', ι1, he, ⟨rfl, rfl⟩, hvr, hwr, hσ, hle, hout⟩, x⟩ := (h B w0 σ ι0 w us hw0 hq0 hus0).2 cs hr
 -- what comes out
 let ι' : Where := fun k => bif sufB q' k then (match sinv so k with
  | some i => ι1 i
  | none => none) else ι k
 have key : ∀ i k, slk so i = some k → ι' k = ι1 i := fun i k hk => by
  obtain ⟨g1, g2⟩ := ho i k hk
  show (bif sufB q' k then (match sinv so k with | some i => ι1 i | none => none) else ι k) = _
  cases hs : sufB q' k with
  | true => rw [g1]; rfl
  | false =>
   rcases g2 with g2 | g2
   ·rw [(sufB_iff _ _).2 g2] at hs; cases hs
   ·have hn : ¬ q <:+ i := hi2 k i (sinv_slk (hi1 k i g2))
    rw [hout i hn, key0 k i g2]; rfl
 refine ⟨e, w', fr, ⟨v2, u, H2', σ', ι', he, ⟨rfl, rfl⟩, ?_, ?_, hσ, ?_, ?_⟩, x⟩
 ·rw [← hv]; exact hvr.rn fun i j hj x hx => by rw [key i j hj]; exact hx
 ·rw [← hH']; exact hwr.rnG key hcl'
 ·intro j y hy
  show (bif sufB q' j then (match sinv so j with | some i => ι1 i | none => none) else ι j) = _
  cases hs : sufB q' j with
  | true => rw [hq j ((sufB_iff _ _).1 hs)] at hy; cases hy
  | false => exact hy
 ·intro j hj
  show (bif sufB q' j then (match sinv so j with | some i => ι1 i | none => none) else ι j) = _
  cases hs : sufB q' j with
  | true => exact absurd ((sufB_iff _ _).1 hs) hj
  | false => rfl
/-! ### A range over a function that ends by a return -/
theorem at_rf_ret {P : Program} {nt : Nat} {Q : Exit → St → Prop} {g : Operand} {ps : Array Tmp} {asg body : Code} {T : Tm} {H : Hp} {p : Id} {n : Nat} (f : FuncId) (cap : List AV) (v : AV) (H' : Hp) (T1 : Tm) (nt1 : Nat) (ps1 : List Nat) (asg1 body1 : Code) (l : List Nat) (k : List Id) (T2 : Tm) (H2 : Hp)
  (hg : evo T g = .fn (.func f) cap) (hgo : opdOk g = true) (hf : tFn P f = true)
  (hc : CallOK P f (.yl ((n + 1) :: p) :: cap) (((n + 1) :: p, .loop T nt ps.toList asg body .ready none) :: (n :: p, .dfr) :: H) ((n + 2) :: p) (fun v1 H1 => v1 = v ∧ H1 = H'))
  (hl : hget H' ((n + 1) :: p) = some (.loop T1 nt1 ps1 asg1 body1 .done (some .ret)))
  (hT : (1000000, dpush (tget T 1000000) (.ptr (n :: p) 0)) :: l.map (fun t => (t, tget T t)) = T2) (hl0 : l.contains 1000000 = false) (hH : keepH k (hset H' ((n + 1) :: p) .gone) = H2)
  (hk : Q .ret ⟨T2, H2, p, n + 3⟩) : AT ⟨P, none, nt⟩ (.rangeFunc g ps asg body) Q ⟨T, H, p, n⟩ := by
 subst hT hH
 refine at_post (Q' := fun e s => e = .ret ∧ s = ⟨(1000000, dpush (tget T 1000000) (.ptr (n :: p) 0)) :: T, hset H' ((n + 1) :: p) .gone, p, n + 3⟩) (at_rangeFunc hg hgo hf hc ?_) ?_
 ·rintro v1 H1 ⟨_, rfl⟩
  exact ⟨T1, nt1, ps1, asg1, body1, .done, some .ret, hl, by simp, rfl, rfl⟩
 ·rintro e s ⟨rfl, rfl⟩
  refine ⟨⟨(1000000, dpush (tget T 1000000) (.ptr (n :: p) 0)) :: l.map (fun t => (t, tget T t)), keepH k (hset H' ((n + 1) :: p) .gone), p, n + 3⟩, Gh.less (fun t => ?_) rfl (keepH_sub k _) (Nat.le_refl _), hk⟩
  simp only [tget]
  split
  ·exact .inl rfl
  ·rename_i hne
   clear hl0 hk
   induction l with
   | nil => exact .inr rfl
   | cons x l ih =>
    simp only [List.map_cons, tget]
    split
    ·rename_i e; subst e; exact .inl rfl
    ·exact ih
end Go.Proofs.YtphmhelkojdlaaaDoor
namespace Go.Proofs.YtphmhelkojdlaaaDoor
open Go.RowKit
set_option linter.unusedSimpArgs false
set_option linter.unusedVariables false
/-- The ids go in (si) and come back (so). -/
def rtOk (si : Sl) : Sl → Bool
 | [] => true
 | (i, k) :: r => decide (slk si k = some i) && decide (sinv ((i, k) :: r) k = some i) && rtOk si r
theorem slk_mem : ∀ {s : Sl} {i j : Id}, slk s i = some j → (i, j) ∈ s := by
 intro s
 induction s with
 | nil => intro i j h; simp [slk] at h
 | cons x r ih =>
  intro i j h
  obtain ⟨a, b⟩ := x
  simp only [slk] at h
  split at h
  ·rename_i e; subst e; cases h; simp
  ·exact List.mem_cons_of_mem _ (ih h)
theorem rtOk_spec {si : Sl} : ∀ {so : Sl}, rtOk si so = true → ∀ i k, (i, k) ∈ so → slk si k = some i := by
 intro so
 induction so with
 | nil => intro _ i k h; simp at h
 | cons x r ih =>
  intro h i k hm
  obtain ⟨a, b⟩ := x
  simp only [rtOk, Bool.and_eq_true, decide_eq_true_eq] at h
  simp only [List.mem_cons, Prod.mk.injEq] at hm
  rcases hm with ⟨rfl, rfl⟩ | hm
  ·exact h.1.1
  ·exact ih h.2 i k hm
theorem stab_mv {P : Program} {f : FuncId} {args args2 : List AV} {H H2 : Hp} {q : Id} {v : AV} (si so : Sl) (cl cl' : List Id) (h : CallOK P f args H q (fun v1 H1 => v1 = v ∧ H1 = H))
  (hok : (siOk q si && rtOk si so && v.cl) = true) (hH : rnH si cl H2 = H) (hcl : clP cl H2) (ha : args2.map (AV.rn (slk si)) = args) (hH' : rnH so cl' H = H2) (hcl' : clP cl' H) :
  StabCall P f args2 H2 v := by
 simp only [Bool.and_eq_true] at hok
 obtain ⟨⟨hsi, hso⟩, hvc⟩ := hok
 obtain ⟨hi1, hi2⟩ := siOk_spec hsi
 have ho := rtOk_spec hso
 intro H' q' hsub B w0 σ ι w us hw hq hus
 let ι0 : Where := fun j => match sinv si j with
  | some i => ι i
  | none => none
 have key0 : ∀ i j, slk si i = some j → ι0 j = ι i := fun i j hj => by
  show (match sinv si j with | some i => ι i | none => none) = _
  rw [hi1 i j hj]
 have hq0 : ∀ j, q <:+ j → ι0 j = none := fun j hj => by
  show (match sinv si j with | some i => ι i | none => none) = none
  cases hs : sinv si j with
  | none => rfl
  | some i => exact absurd hj (hi2 i j (sinv_slk hs))
 have hw2 : WR B w0 σ ι H2 w := hw.weaken hsub
 have hw1 : WR B w0 σ ι0 H w := by rw [← hH]; exact hw2.rnG key0 hcl
 -- the base that names the other blocks
 let K' : Nat → Prop := fun b => B.K b ∨ ∃ id o n, hget H' id = some o ∧ ι id = some (some (b, n)) ∧ hget H2 id = none
 have hfr : ∀ b, K' b → b < w.heap.size := by
  rintro b (hb | ⟨id, o, n, h1, h2, _⟩)
  ·exact Nat.lt_of_lt_of_le (hw.below.keep b hb).1 hw.below.size
  ·exact hw.lt h1 h2
 have back : ∀ j o, hget H j = some o → ∃ i o2, hget H2 i = some o2 ∧ slk si i = some j := by
  intro j o hj
  rw [← hH] at hj
  obtain ⟨i, o1, h1, h2, _⟩ := hget_rnH hj
  exact ⟨i, o1, h1, h2⟩
 have hwK : WR ⟨B.B, σ, K'⟩ w σ ι0 H w := by
  refine ⟨hw.size, ⟨⟨rfl, rfl, rfl, Nat.le_refl _, fun k _ => rfl⟩, fun b hb => ⟨hfr b hb, rfl⟩⟩, ?_, hw1.ghost, hw1.dom, hw1.inj, hw1.sure, hw1.stab, fun a v h => .inl h⟩
  intro j o b n hj hi
  obtain ⟨h1, h2⟩ := hw1.obj j o b n hj hi
  refine ⟨⟨h1.1, ?_⟩, h2⟩
  rintro (hk | ⟨id, o', n', g1, g2, g3⟩)
  ·exact h1.2 hk
  ·obtain ⟨i, o2, k1, k2⟩ := back j o hj
   rw [key0 i j k2] at hi
   have := hw.inj i id o2 o' b n n' (hsub _ _ k1) g1 hi g2
   subst this
   rw [g3] at k1; cases k1
 have hus0 : VRs σ ι0 args us := by
  rw [← ha]
  refine ⟨by rw [List.length_map]; exact hus.1, fun j c u h1 h2 => ?_⟩
  rw [List.getElem?_map] at h1
  cases hc : args2[j]? with
  | none => rw [hc] at h1; cases h1
  | some c' =>
   rw [hc] at h1; cases h1
   exact (hus.2 j c' u hc h2).rn fun i j hj x hx => by rw [key0 i j hj]; exact hx
 have hcall := h ⟨B.B, σ, K'⟩ w σ ι0 w us hwK hq0 hus0
 refine ⟨trivial, fun cs hr => ?_⟩
 obtain ⟨e, w', fr, ⟨v1, u, H1, σ', ι1, he, ⟨rfl, rfl⟩, hvr, hwr, hσ, hle, hout⟩, x⟩ := hcall.2 cs hr
 refine ⟨e, w', fr, ⟨v1, u, H', σ', ι, he, ⟨rfl, rfl⟩, hvr.cl hvc, ?_, hσ, fun _ _ h => h, fun _ _ => rfl⟩, x⟩
 -- the blocks come back under their ids
 have key : ∀ i k, slk so i = some k → ι k = ι1 i := fun i k hk => by
  have hm := ho i k (slk_mem hk)
  have hn : ¬ q <:+ i := hi2 k i (slk_mem hm)
  rw [hout i hn, key0 k i hm]
 have hwr2 : WR ⟨B.B, σ, K'⟩ w σ' ι H2 w' := by rw [← hH']; exact hwr.rnG key hcl'
 have hb := hwr.below
 refine ⟨hw.hB, hw.below.step hb.below (fun k hk => (hb.keep k (.inl hk)).2), ?_, hw.ghost, hw.dom, hw.inj, hwr.sure, ?_, ?_⟩
 ·intro id o b n hid hi
  cases h2 : hget H2 id with
  | some o2 =>
   have := hsub _ _ h2
   rw [hid] at this; cases this
   obtain ⟨g1, g2⟩ := hwr2.obj id o b n h2 hi
   exact ⟨⟨g1.1, fun hk => g1.2 (.inl hk)⟩, g2⟩
  | none =>
   obtain ⟨g1, obj, g2, g3⟩ := hw.obj id o b n hid hi
   exact ⟨g1, obj, by rw [(hb.keep b (.inr ⟨id, o, n, hid, hi, h2⟩)).2]; exact g2, g3.mono hσ (fun _ _ h => h)⟩
 ·intro a y hs id o b n hid hi hab
  cases h2 : hget H2 id with
  | some o2 =>
   have := hsub _ _ h2
   rw [hid] at this; cases this
   exact hwr2.stab a y hs id o b n h2 hi hab
  | none =>
   rcases hwr.newf a y hs with g | g
   ·exact hw.stab a y g id o b n hid hi hab
   ·exact absurd (.inr ⟨id, o, n, hid, by rw [hab]; exact hi, h2⟩) g.2
 ·intro a y hs
  rcases hwr.newf a y hs with g | g
  ·exact hw.newf a y g
  ·exact .inr ⟨g.1, fun hk => g.2 (.inl hk)⟩
theorem sub_nil {H : Hp} : Sub [] H := fun z o h => by cases h
theorem sub_cons {H r : Hp} {i : Id} {o : AO} (h : hget H i = some o) (hr : Sub r H) : Sub ((i, o) :: r) H := by
 intro z o' hz
 simp only [hget] at hz
 split at hz
 ·rename_i e; subst e; cases hz; exact h
 ·exact hr z o' hz
end Go.Proofs.YtphmhelkojdlaaaDoor
namespace Go.Proofs.YtphmhelkojdlaaaDoor
open Go.RowKit
set_option linter.unusedSimpArgs false
set_option linter.unusedVariables false
/-- The blocks that are named, in this order. -/
def permH (l : List Id) (H : Hp) : Hp := l.filterMap fun i => (hget H i).map fun o => (i, o)
theorem permH_sub (l : List Id) (H : Hp) : ∀ id o, hget (permH l H) id = some o → hget H id = some o := by
 induction l with
 | nil => intro id o h; cases h
 | cons i r ih =>
  intro id o h
  unfold permH at h ih
  rw [List.filterMap_cons] at h
  cases hi : hget H i with
  | none => rw [hi] at h; exact ih id o h
  | some x =>
   rw [hi] at h
   simp only [Option.map_some, hget] at h
   split at h
   ·rename_i e; subst e; cases h; exact hi
   ·exact ih id o h
theorem RnOK.perm {q : Id} {m0 n : Nat} {T T1 : Tm} {H H1 H2 : Hp} (l : List Id) (hp : permH l H1 = H2) (h : RnOK q m0 T H n T1 H1) : RnOK q m0 T H n T1 H2 := by
 subst hp
 intro E B w0 σ0 ι0 ds a w hf hs
 obtain ⟨σ, ι, x⟩ := h E B w0 σ0 ι0 ds a w hf hs
 exact ⟨σ, ι, x.le, x.lei, x.out, x.wr.weaken (permH_sub l H1), x.tr, x.nt, x.qp, x.fr, x.df, x.nk⟩
theorem Gh.perm {T : Tm} {H H' : Hp} {p : Id} {n : Nat} (l : List Id) (hp : permH l H = H') : Gh ⟨T, H, p, n⟩ ⟨T, H', p, n⟩ :=
 Gh.less (fun _ => .inl rfl) rfl (by subst hp; exact permH_sub l H) (Nat.le_refl _)
theorem fin_inP {P : Program} {rs : List ResultVar} {v : AV} {e : Exit} {T : Tm} {H H' : Hp} {p : Id} {n : Nat} (he : e = .normal ∨ e = .ret) (k : List Id) (v1 : AV) (H1 : Hp) (hr : endB P T H rs = some (v1, H1)) (hv : v1 = v) (hk : permH k H1 = H') :
  (fun (e : Exit) (s : St) => (e = .normal ∨ e = .ret) ∧ leaveD (tget s.T 1000000) s.H fun H1 => resK P s.T H1 rs [] (fun vs => retV vs = v ∧ ∀ id o, hget H' id = some o → hget H1 id = some o)) e ⟨T, H, p, n⟩ := by
 subst hk hv
 refine ⟨he, ?_⟩
 unfold endB at hr
 split at hr
 ·cases hr
 ·rename_i H2 hl
  split at hr
  ·cases hr
  ·rename_i vs hvs
   cases hr
   exact leaveB_ok hl (resB_ok hvs ⟨rfl, permH_sub k _⟩)
/-- The block x gets the id m :: p; the others that are named keep theirs. -/
def renOk (x y : Id) : Sl → Bool
 | [] => true
 | (i, j) :: r => (bif decide (i = x) then decide (j = y) else (decide (j = i) && !decide (j = y))) && renOk x y r
theorem renOk_spec {x y : Id} : ∀ {s : Sl}, renOk x y s = true → ∀ i j, slk s i = some j → i = x ∧ j = y ∨ j = i ∧ j ≠ y := by
 intro s
 induction s with
 | nil => intro _ i j h; simp [slk] at h
 | cons z r ih =>
  obtain ⟨a, b⟩ := z
  intro h i j hl
  simp only [renOk, Bool.and_eq_true] at h
  simp only [slk] at hl
  split at hl
  ·rename_i e; subst e; cases hl
   have h1 := h.1
   by_cases e : a = x
   ·rw [decide_eq_true e, cond_true, decide_eq_true_eq] at h1; exact .inl ⟨e, h1⟩
   ·rw [decide_eq_false e, cond_false, Bool.and_eq_true, decide_eq_true_eq, Bool.not_eq_true', decide_eq_false_iff_not] at h1; exact .inr h1
  ·exact ih h.2 i j hl
theorem Gh.ren {T T' : Tm} {H H' : Hp} {p : Id} {n : Nat} (x : Id) (m : Nat) (s : Sl) (cl : List Id) (hs : (renOk x (m :: p) s && Nat.ble n m) = true) (hcl : clP cl H) (hH : rnH s cl H = H')
  (hT : (T.map fun y => (y.1, AV.rn (slk s) y.2)) = T') (hd : tget T' 1000000 = tget T 1000000) : Gh ⟨T, H, p, n⟩ ⟨T', H', p, m + 1⟩ := by
 simp only [Bool.and_eq_true] at hs
 have hnm : n ≤ m := Nat.le_of_ble_eq_true hs.2
 have hsp := renOk_spec hs.1
 rintro E B w0 σ0 ι0 q ds a w ⟨σ, ι, h⟩
 let ι' : Where := fun j => if j = m :: p then ι x else ι j
 have hnone : ι (m :: p) = none := h.fr _ m hnm (List.suffix_refl _)
 have key : ∀ i j, slk s i = some j → ι' j = ι i := by
  intro i j hij
  show (if j = m :: p then ι x else ι j) = _
  rcases hsp i j hij with ⟨e1, e2⟩ | ⟨e1, e2⟩
  ·rw [if_pos e2, e1]
  ·rw [if_neg e2, e1]
 have hle : ∀ j y, ι j = some y → ι' j = some y := by
  intro j y hj
  show (if j = m :: p then ι x else ι j) = _
  rw [if_neg (fun e => by subst e; rw [hnone] at hj; cases hj)]; exact hj
 refine ⟨σ, ι', h.le, fun j y hj => hle _ _ (h.lei j y hj), fun j hj => ?_, by rw [← hH]; exact h.wr.rnG key hcl, fun t => ?_, h.nt, h.qp, fun j k hk hj => ?_, (h.df.mono (fun _ _ h => h) hle).same hd, h.nk⟩
 ·show (if j = m :: p then ι x else ι j) = _
  rw [if_neg (fun e => by subst e; exact hj (h.qp.trans (List.suffix_cons _ _)))]; exact h.out j hj
 ·rw [← hT, tget_rn]
  exact (h.tr t).rn fun i j hij y hy => by rw [key i j hij]; exact hy
 ·have hk' : m + 1 ≤ k := hk
  show (if j = m :: p then ι x else ι j) = none
  rw [if_neg (fun e => by subst e; have := suffix_cons_ne hj (List.suffix_refl _); omega)]
  exact h.fr j k (by show n ≤ k; omega) hj
end Go.Proofs.YtphmhelkojdlaaaDoor
namespace Go.Proofs.YtphmhelkojdlaaaDoor
open Go.RowKit
set_option linter.unusedSimpArgs false
set_option linter.unusedVariables false
theorem Le.slin (b : Bool) (sz : Nat) (rows : List (List TV)) : Le (.tv (.slin b sz rows)) (.tv (.sli sz rows)) := by
 intro σ ι u h
 cases h with
 | tv h =>
  cases h with
  | slin _ _ _ A len cap h hb => exact .tv h
theorem evLoad_flat1 {P : Program} {H : Hp} {t : TypeId} {id : Id} {α : Type} {enc : α → List TV} {c : α → TV} (he : ∀ a, enc a = [c a]) {l : List α} {ro : Bool} {i : Nat} {d : α} (hg : tAgg P t = some false) (hs : tSz P t = some 1) (hH : hget H id = some (.row (flat enc l) ro)) (h : i < l.length) :
  evLoad P H t (.ptr id ((0 + i) * 1)) = .val (.tv (c (l.getD i d))) .no := by
 have hz : ∀ a, (enc a).length = 1 := fun a => by rw [he]; rfl
 obtain ⟨e1, e2⟩ := flat_split hz h
 have e3 : ((flat enc l).drop ((0 + i) * 1)).take 1 = (enc l[i]).map .tv := by
  rw [e1, Nat.zero_add, List.drop_append_of_le_length (by omega), List.drop_of_length_le (by omega), List.nil_append, List.take_append_of_le_length (by simp [hz]), List.take_of_length_le (by simp [hz])]
 simp only [evLoad, hg, hs, hH, e3, chk]
 rw [if_pos ⟨by simp [hz], .inr trivial⟩, getD_of_lt h, he]
 rfl
theorem evStore_flat1 {P : Program} {H : Hp} {t : TypeId} {id : Id} {α : Type} {enc : α → List TV} {c : α → TV} (he : ∀ a, enc a = [c a]) {l : List α} {i : Nat} {a : α} (hs : tSz P t = some 1) (hH : hget H id = some (.row (flat enc l) false)) (h : i < l.length) :
  evStore P H t (.ptr id ((0 + i) * 1)) (.tv (c a)) = .val (.tup []) (.upd id (.row (flat enc (l.set i a)) false)) := by
 have hz : ∀ a, (enc a).length = 1 := fun a => by rw [he]; rfl
 have := evStore_flat (P := P) (t := t) (a := a) hs hH hz (fun a => by rw [he]; rfl) h
 rw [he] at this
 simp only [evStore, hs, AV.cells, List.map_cons, List.map_nil] at this ⊢
 exact this
theorem evLoad_flat1A {P : Program} {H : Hp} {t : TypeId} {id : Id} {α : Type} {enc : α → List TV} {c : α → TV} (he : ∀ a, enc a = [c a]) {l : List α} {ro : Bool} {i : Nat} {d : α} (hg : tAgg P t = some false) (hs : tSz P t = some 1) (hH : hget H id = some (.row (flat enc l) ro)) (h : i < l.length) :
  evLoad P H t (.ptr id (0 + i * 1)) = .val (.tv (c (l.getD i d))) .no := by
 have : 0 + i * 1 = (0 + i) * 1 := by omega
 rw [this]; exact evLoad_flat1 he hg hs hH h
theorem evStore_flat1A {P : Program} {H : Hp} {t : TypeId} {id : Id} {α : Type} {enc : α → List TV} {c : α → TV} (he : ∀ a, enc a = [c a]) {l : List α} {i : Nat} {a : α} (hs : tSz P t = some 1) (hH : hget H id = some (.row (flat enc l) false)) (h : i < l.length) :
  evStore P H t (.ptr id (0 + i * 1)) (.tv (c a)) = .val (.tup []) (.upd id (.row (flat enc (l.set i a)) false)) := by
 have : 0 + i * 1 = (0 + i) * 1 := by omega
 rw [this]; exact evStore_flat1 he hs hH h
end Go.Proofs.YtphmhelkojdlaaaDoor
namespace Go.Proofs.YtphmhelkojdlaaaDoor
open Go.RowKit
set_option linter.unusedSimpArgs false
set_option linter.unusedVariables false
theorem stepR_scope {P : Program} {b : Frame} {a : Act} {k : List Item} {cs : List Frame} {w : World} {c : Code} : step P (lone (b.atR a (.code (.scope c) :: k)) cs w) = .next (lone (b.atR a (.code c :: .inScope c :: k)) cs w) :=
 step_lone_go (by simp [stepG, stepG.exec, Frame.atR])
theorem stepR_inScope {P : Program} {b : Frame} {a : Act} {k : List Item} {cs : List Frame} {w : World} {c : Code} : step P (lone (b.atR a (.inScope c :: k)) cs w) = .next (lone (b.atR a k) cs w) :=
 step_lone_go (by simp [stepG, stepG.exec, Frame.atR])
/-- No jump comes out. -/
def noGo (Q : Exit → St → Prop) : Exit → St → Prop
 | .goto _, _ => False
 | e, s => Q e s
theorem wpIn_scope {F : Fence} {n : Nat} {P : Program} {c : Code} {Q : Exit → Act → World → Prop} {a : Act} {w : World} (h : c.wpIn F n P (fun e a w => (∀ l, e ≠ .goto l) ∧ Q e a w) a w) : (Code.scope c).wpIn F n P Q a w := by
 intro b k cs hro hb hr
 have h0 : (lone (b.atR a (.code (.scope c) :: k)) cs w).fenced P F := fenced_calm hb hr rfl
 obtain ⟨e, a₁, w₁, ⟨hg, hq⟩, harr⟩ := h b (.inScope c :: k) cs hro hb hr
 cases e with
 | normal =>
  refine ⟨.normal, a₁, w₁, hq, ?_⟩
  exact StepsIn.trans (.head h0 stepR_scope harr) (.one (fenced_calm hb hr rfl) stepR_inScope)
 | exit id =>
  refine ⟨.exit id, a₁, w₁, hq, fun k' hk => ?_, fun hro' hk => ?_⟩
  ·exact .head h0 stepR_scope (harr.1 k' (by simp [exitTo, hk]))
  ·obtain ⟨k2, h1, h2⟩ := harr.2 hro' (by simp [exitTo, hk])
   exact ⟨k2, h1, .head h0 stepR_scope h2⟩
 | goto l => exact absurd rfl (hg l)
 | ret => exact ⟨_, a₁, w₁, hq, .of_steps (.one h0 stepR_scope) harr⟩
 | panic ch => exact ⟨_, a₁, w₁, hq, .of_steps (.one h0 stepR_scope) harr⟩
 | outgrown => exact ⟨_, a₁, w₁, hq, .of_steps (.one h0 stepR_scope) harr⟩
theorem at_scope {E : En} {Q : Exit → St → Prop} {c : Code} {s : St} (h : AT E c (noGo Q) s) : AT E (.scope c) Q s := by
 intro B w0 σ0 ι0 q ds a w hs
 refine wpIn_scope (wpIn_mono (h B w0 σ0 ι0 q ds a w hs) fun e a' w' ⟨s', h1, h2⟩ => ?_)
 cases e with
 | goto l => exact h1.elim
 | normal => exact ⟨fun l h => (by cases h), s', h1, h2⟩
 | exit id => exact ⟨fun l h => (by cases h), s', h1, h2⟩
 | ret => exact ⟨fun l h => (by cases h), s', h1, h2⟩
 | panic ch => exact ⟨fun l h => (by cases h), s', h1, h2⟩
 | outgrown => exact ⟨fun l h => (by cases h), s', h1, h2⟩
theorem at_label {E : En} {Q : Exit → St → Prop} {l : Nat} {s : St} (h : Q .normal s) : AT E (.label l) Q s := fun B w0 σ0 ι0 q ds a w hs => wpIn_label ⟨s, h, hs⟩
end Go.Proofs.YtphmhelkojdlaaaDoor
