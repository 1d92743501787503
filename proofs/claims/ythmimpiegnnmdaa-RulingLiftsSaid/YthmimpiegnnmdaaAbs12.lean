/- Regions that draw their order: one evaluation in the order of the text serves every order. -/
import Derived.Test.YthmimpiegnnmdaaAbs11
namespace Go.Proofs.Ythmimpiegnnmdaa
open Go.RowKit
set_option linter.unusedSimpArgs false
set_option linter.unusedVariables false

def usesH : Op → Bool
  | .load .. | .store .. | .lookup .. | .mapUpdate .. | .call _ => true
  | _ => false
def wrs (e : Eff) (id : Id) : List Id := match e with
  | .no => []
  | .new _ => [id]
  | .upd i _ => [i]
  | .repl i _ => [i, id]
def clr : List Id → Hp → Prop
  | [], _ => True
  | x :: r, H => hget H x = none ∧ clr r H
def notIn (x : Id) : List Id → Prop
  | [] => True
  | y :: r => (y = x) = False ∧ notIn x r
/-- The heap behind those of the effects that the mask names. -/
def hovL (p : Id) (n0 m : Nat) : Hp → List (Nat × Eff) → Hp
  | H, [] => H
  | H, (j, e) :: r => hovL p n0 m (bif m.testBit j then e.app H ((n0 + j) :: p) else H) r
def hovA (p : Id) (n0 : Nat) : Hp → List (Nat × Eff) → Hp
  | H, [] => H
  | H, (j, e) :: r => hovA p n0 (e.app H ((n0 + j) :: p)) r
def clrE (p : Id) (n0 m : Nat) (id : Id) (H : Hp) : List (Nat × Eff) → Prop
  | [] => True
  | (j, e) :: r => (bif m.testBit j then True else clr (wrs e ((n0 + j) :: p)) H) ∧ notIn id (wrs e ((n0 + j) :: p)) ∧ clrE p n0 m id H r
def clrU (m : Nat) (xs : List Id) : List (Nat × Hp) → Prop
  | [] => True
  | (j, H) :: r => (bif m.testBit j then True else clr xs H) ∧ clrU m xs r
def oldIn (e : Eff) (H : Hp) : Prop := match e with
  | .upd i _ => (hget H i).isSome = true
  | .repl i _ => (hget H i).isSome = true
  | _ => True
def eadd (k : Nat) (e : Eff) (E : List (Nat × Eff)) : List (Nat × Eff) := match e with
  | .no => E
  | e => E ++ [(k, e)]
/-- The one slice of one's own among the arguments, read as a tree. -/
def frz1 (H : Hp) : List AV → Option (List AV × Id × AO)
  | [] => none
  | .sl i sz off len :: r => match hget H i with
    | some (.row cells _) => match tvs cells with
      | some ts => if off = 0 ∧ ts.length = len * sz ∧ 0 < sz then some (.tv (.sli sz (chunk sz len ts)) :: r, i, .row cells true) else none
      | none => none
    | _ => none
  | v :: r => match frz1 H r with
    | some (r', i, o) => some (v :: r', i, o)
    | none => none
def evdR (P : Program) (H : Hp) (K : AV → Eff → Prop) : Res → Prop
  | .val v e => K v e
  | .need c r => c ∧ evdR P H K r
  | .call f args => (∃ v, PureCall P f args v ∧ K v .no) ∨ (∃ args' i o v, frz1 H args = some (args', i, o) ∧ PureCall P f args' v ∧ K v (.upd i o))
  | _ => False
def evd (P : Program) (p : Id) (n0 : Nat) (H0 : Hp) : List SOp → List Nat → Nat → Tm → List (Nat × Eff) → List (Nat × Hp) → (Tm → Hp → Nat → Prop) → Prop
  | [], _, k, T, E, _, K => K T (hovA p n0 H0 E) (n0 + k)
  | _ :: _, [], _, _, _, _, _ => False
  | ⟨d, op, none⟩ :: os, m :: ms, k, T, E, U, K =>
    clrE p n0 m ((n0 + k) :: p) (bif usesH op then hovL p n0 m H0 E else []) E ∧
    evdR P (bif usesH op then hovL p n0 m H0 E else []) (fun v e => oldIn e (bif usesH op then hovL p n0 m H0 E else []) ∧ clrU m (wrs e ((n0 + k) :: p)) U ∧ evd P p n0 H0 os ms (k + 1) (tset d v T) (eadd k e E) (bif usesH op then U ++ [(k, hovL p n0 m H0 E)] else U) K)
      (evOp P T (bif usesH op then hovL p n0 m H0 E else []) ((n0 + k) :: p) op)
  | ⟨d, op, some (t, b)⟩ :: os, m :: ms, k, T, E, U, K => match tget T t with
    | .tv (.bool c) =>
      (c = b → clrE p n0 m ((n0 + k) :: p) (bif usesH op then hovL p n0 m H0 E else []) E ∧
        evdR P (bif usesH op then hovL p n0 m H0 E else []) (fun v e => oldIn e (bif usesH op then hovL p n0 m H0 E else []) ∧ clrU m (wrs e ((n0 + k) :: p)) U ∧ evd P p n0 H0 os ms (k + 1) (tset d v T) (eadd k e E) (bif usesH op then U ++ [(k, hovL p n0 m H0 E)] else U) K)
          (evOp P T (bif usesH op then hovL p n0 m H0 E else []) ((n0 + k) :: p) op)) ∧
      (c = !b → evd P p n0 H0 os ms (k + 1) (tset d (.tup []) T) E U K)
    | .tup [] => evd P p n0 H0 os ms (k + 1) (tset d (.tup []) T) E U K
    | _ => False

/-! ### What the evaluation tells, as lists -/
def opTmps (op : Op) : List Nat := op.operands.toList.filterMap fun | .tmp t => some t | _ => none
def gTmps (g : Option (Nat × Bool)) : List Nat := match g with
  | some (t, _) => [t]
  | none => []
/-- The masks follow from the edges; what is read or written twice is ordered. -/
def drawOk (ops : Array Oper) (os : List SOp) (ms : List Nat) : Bool :=
  (List.range ops.size).all (fun k => (ops[k]?).all fun o => o.after.all fun e => !Region.binds .any e || decide (e.on < k)) &&
  (List.range ops.size).all (fun k => (List.range k).all fun j => !(ms.getD k 0).testBit j || ((ops[k]?).any fun o => o.after.any fun e => Region.binds .any e && (e.on == j || (ms.getD e.on 0).testBit j))) &&
  (List.range ops.size).all (fun k => (ms.getD k 0) < 2 ^ k) &&
  (List.range ops.size).all (fun k => (List.range ops.size).all fun j => j == k ||
    match (os[j]?).bind (·.dst) with
    | some t => !((os[k]?).any fun o => (opTmps o.op).contains t || (gTmps o.g).contains t || o.dst == some t) || (if j < k then (ms.getD k 0).testBit j else (ms.getD j 0).testBit k)
    | none => true)
structure PStep where
  so : SOp
  v : AV
  e : Eff
  ran : Bool
def tov (L : Nat → Bool) : Nat → List PStep → Tm → Tm
  | _, [], T => T
  | k, x :: r, T => tov L (k + 1) r (bif L k then tset x.so.dst x.v T else T)
def hov (p : Id) (n0 : Nat) (L : Nat → Bool) : Nat → List PStep → Hp → Hp
  | _, [], H => H
  | k, x :: r, H => hov p n0 L (k + 1) r (bif L k then x.e.app H ((n0 + k) :: p) else H)
def allL : Nat → Bool := fun _ => true
def heapAt (p : Id) (n0 : Nat) (H0 : Hp) (m : Nat) (op : Op) (pre : List PStep) : Hp := bif usesH op then hov p n0 (fun j => m.testBit j) 0 pre H0 else []
/-- An operation's result, one of those that it may have. -/
def ResTo (P : Program) (H : Hp) (v : AV) (e : Eff) : Res → Prop
  | .val v' e' => v' = v ∧ e' = e
  | .need c r => c ∧ ResTo P H v e r
  | .call f args => (PureCall P f args v ∧ e = .no) ∨ (∃ args' i o, frz1 H args = some (args', i, o) ∧ PureCall P f args' v ∧ e = .upd i o)
  | _ => False
def PFact (P : Program) (p : Id) (n0 : Nat) (H0 : Hp) (T0 : Tm) (ms : List Nat) (pl : List PStep) (k : Nat) (x : PStep) : Prop :=
  let m := ms.getD k 0
  let pre := pl.take k
  let T := tov allL 0 pre T0
  let H := heapAt p n0 H0 m x.so.op pre
  let run := ResTo P H x.v x.e (evOp P T H ((n0 + k) :: p) x.so.op) ∧ oldIn x.e H ∧
    (∀ j y, pre[j]? = some y → m.testBit j = false → ∀ z ∈ wrs y.e ((n0 + j) :: p), hget H z = none) ∧ (∀ j y, pre[j]? = some y → (n0 + k) :: p ∉ wrs y.e ((n0 + j) :: p)) ∧
    (∀ j y, pre[j]? = some y → m.testBit j = false → y.ran = true → usesH y.so.op = true → ∀ z ∈ wrs x.e ((n0 + k) :: p), hget (heapAt p n0 H0 (ms.getD j 0) y.so.op (pl.take j)) z = none)
  match x.so.g with
  | none => x.ran = true ∧ run
  | some (t, b) => (tget T t = .tv (.bool b) ∧ x.ran = true ∧ run) ∨ ((tget T t = .tv (.bool !b) ∨ tget T t = .tup []) ∧ x.ran = false ∧ x.v = .tup [] ∧ x.e = .no)
theorem clr_spec {xs : List Id} {H : Hp} (h : clr xs H) : ∀ z ∈ xs, hget H z = none := by
  induction xs with
  | nil => intro z hz; simp at hz
  | cons x r ih =>
    intro z hz
    simp at hz
    rcases hz with rfl | hz
    · exact h.1
    · exact ih h.2 z hz
theorem notIn_spec {x : Id} {xs : List Id} (h : notIn x xs) : x ∉ xs := by
  induction xs with
  | nil => simp
  | cons y r ih =>
    simp only [List.mem_cons, not_or]
    exact ⟨fun e => by have := h.1; rw [this.symm]; exact e.symm, ih h.2⟩
theorem evdR_to {P : Program} {H : Hp} {K : AV → Eff → Prop} {r : Res} (h : evdR P H K r) : ∃ v e, ResTo P H v e r ∧ K v e := by
  induction r with
  | val v e => exact ⟨v, e, ⟨rfl, rfl⟩, h⟩
  | need c r ih => obtain ⟨v, e, h1, h2⟩ := ih h.2; exact ⟨v, e, ⟨h.1, h1⟩, h2⟩
  | call f args =>
    rcases h with ⟨v, h1, h2⟩ | ⟨args', i, o, v, h1, h2, h3⟩
    · exact ⟨v, .no, .inl ⟨h1, rfl⟩, h2⟩
    · exact ⟨v, .upd i o, .inr ⟨args', i, o, h1, h2, rfl⟩, h3⟩
  | yld i args => exact h.elim
  | fail => exact h.elim
/-- The effects that are no idle ones, with their places. -/
def effs : Nat → List PStep → List (Nat × Eff)
  | _, [] => []
  | k, x :: r => match x.e with
    | .no => effs (k + 1) r
    | e => (k, e) :: effs (k + 1) r
theorem effs_append (k : Nat) (pl : List PStep) (x : PStep) : effs k (pl ++ [x]) = eadd (k + pl.length) x.e (effs k pl) := by
  induction pl generalizing k with
  | nil => cases hx : x.e <;> simp [effs, eadd, hx]
  | cons y r ih =>
    simp only [List.cons_append, effs]
    have hl : k + (y :: r).length = k + 1 + r.length := by simp; omega
    cases hy : y.e with
    | no => simp only [ih, hl]
    | _ => simp only [ih, hl]; cases x.e <;> rfl
theorem hovL_eq (p : Id) (n0 m : Nat) : ∀ (pl : List PStep) (k : Nat) (H : Hp), hovL p n0 m H (effs k pl) = hov p n0 (fun j => m.testBit j) k pl H := by
  intro pl
  induction pl with
  | nil => intro k H; rfl
  | cons x r ih =>
    intro k H
    simp only [effs, hov]
    cases hx : x.e with
    | no => simp only [ih, Eff.app]; cases m.testBit k <;> rfl
    | _ => simp only [hovL, ih]
theorem hovA_eq (p : Id) (n0 : Nat) : ∀ (pl : List PStep) (k : Nat) (H : Hp), hovA p n0 H (effs k pl) = hov p n0 allL k pl H := by
  intro pl
  induction pl with
  | nil => intro k H; rfl
  | cons x r ih =>
    intro k H
    simp only [effs, hov]
    cases hx : x.e with
    | no => simp only [ih, Eff.app, allL, cond_true]
    | _ => simp only [hovA, ih, allL, cond_true]
theorem clrE_spec {p : Id} {n0 m : Nat} {id : Id} {H : Hp} : ∀ (pl : List PStep) (k : Nat), clrE p n0 m id H (effs k pl) →
    ∀ j y, pl[j]? = some y → (m.testBit (k + j) = false → ∀ z ∈ wrs y.e ((n0 + (k + j)) :: p), hget H z = none) ∧ id ∉ wrs y.e ((n0 + (k + j)) :: p) := by
  intro pl
  induction pl with
  | nil => intro k _ j y hj; simp at hj
  | cons x r ih =>
    intro k h j y hj
    simp only [effs] at h
    have hrest : clrE p n0 m id H (effs (k + 1) r) := by
      cases hx : x.e with
      | no => rw [hx] at h; exact h
      | _ => rw [hx] at h; exact h.2.2
    cases j with
    | zero =>
      simp at hj; subst hj
      simp only [Nat.add_zero]
      cases hx : x.e with
      | no => exact ⟨fun _ z hz => by simp [wrs] at hz, by simp [wrs]⟩
      | _ =>
        rw [hx] at h
        exact ⟨fun hb => by have := h.1; rw [hb] at this; exact clr_spec this, notIn_spec h.2.1⟩
    | succ j =>
      simp at hj
      have := ih (k + 1) hrest j y hj
      have e1 : k + 1 + j = k + (j + 1) := by omega
      rw [e1] at this; exact this
theorem tov_append (L : Nat → Bool) : ∀ (pl : List PStep) (k : Nat) (x : PStep) (T : Tm), tov L k (pl ++ [x]) T = bif L (k + pl.length) then tset x.so.dst x.v (tov L k pl T) else tov L k pl T := by
  intro pl
  induction pl with
  | nil => intro k x T; simp [tov]
  | cons y r ih =>
    intro k x T
    simp only [List.cons_append, tov, ih]
    have : k + 1 + r.length = k + (y :: r).length := by simp; omega
    rw [this]
theorem clrU_spec {m : Nat} {xs : List Id} {U : List (Nat × Hp)} (h : clrU m xs U) : ∀ x ∈ U, m.testBit x.1 = false → ∀ z ∈ xs, hget x.2 z = none := by
  induction U with
  | nil => intro x hx; simp at hx
  | cons y r ih =>
    intro x hx hb
    simp at hx
    rcases hx with rfl | hx
    · have := h.1; rw [hb] at this; exact clr_spec this
    · exact ih h.2 x hx hb
theorem take_snoc_get {α : Type} (pl : List α) (x : α) {j : Nat} (hj : j ≤ pl.length) : (pl ++ [x]).take j = pl.take j := by
  rw [List.take_append_of_le_length hj]
/-- Out of the evaluation: the plan. -/
theorem evd_plan {P : Program} {p : Id} {n0 : Nat} {H0 : Hp} {T0 : Tm} (ms : List Nat) {K : Tm → Hp → Nat → Prop} : ∀ (os : List SOp) (pl : List PStep) (U : List (Nat × Hp)),
    (∀ k x, pl[k]? = some x → PFact P p n0 H0 T0 ms pl k x) →
    (∀ j y, pl[j]? = some y → y.ran = true → usesH y.so.op = true → (j, heapAt p n0 H0 (ms.getD j 0) y.so.op (pl.take j)) ∈ U) →
    evd P p n0 H0 os (ms.drop pl.length) pl.length (tov allL 0 pl T0) (effs 0 pl) U K →
    ∃ pl', pl'.map (·.so) = pl.map (·.so) ++ os ∧ (∀ k x, pl'[k]? = some x → PFact P p n0 H0 T0 ms pl' k x) ∧ K (tov allL 0 pl' T0) (hov p n0 allL 0 pl' H0) (n0 + pl'.length) := by
  intro os
  induction os with
  | nil =>
    intro pl U hf hU h
    refine ⟨pl, by simp, hf, ?_⟩
    simp only [evd, hovA_eq] at h
    exact h
  | cons so os ih =>
    intro pl U hf hU h
    cases hms : ms.drop pl.length with
    | nil => rw [hms] at h; cases so with | mk d op g => cases g <;> simp [evd] at h
    | cons m ms' =>
      have hm : ms.getD pl.length 0 = m := by
        have h1 : ms[pl.length]? = some m := by
          have := congrArg (fun l => l[0]?) hms
          simpa using this
        simp [List.getD, h1]
      have hms' : ms.drop (pl.length + 1) = ms' := by
        rw [← List.drop_drop, hms]; rfl
      rw [hms] at h
      -- one more step of the plan
      have go : ∀ (x : PStep) (U' : List (Nat × Hp)), x.so = so → PFact P p n0 H0 T0 ms (pl ++ [x]) pl.length x → (∀ y ∈ U, y ∈ U') → (x.ran = true → usesH x.so.op = true → (pl.length, heapAt p n0 H0 m x.so.op pl) ∈ U') →
          evd P p n0 H0 os ms' (pl.length + 1) (tset x.so.dst x.v (tov allL 0 pl T0)) (eadd pl.length x.e (effs 0 pl)) U' K →
          ∃ pl', pl'.map (·.so) = pl.map (·.so) ++ so :: os ∧ (∀ k x, pl'[k]? = some x → PFact P p n0 H0 T0 ms pl' k x) ∧ K (tov allL 0 pl' T0) (hov p n0 allL 0 pl' H0) (n0 + pl'.length) := by
        intro x U' hso hx hUU hU' hev
        have hlen : (pl ++ [x]).length = pl.length + 1 := by simp
        refine (fun hh => ?_) (ih (pl ++ [x]) U' ?_ ?_ ?_)
        · obtain ⟨pl', h1, h2, h3⟩ := hh
          refine ⟨pl', ?_, h2, h3⟩
          rw [h1, List.map_append, List.append_assoc]
          simp [hso]
        · intro k y hk
          by_cases hkl : k < pl.length
          · rw [List.getElem?_append_left hkl] at hk
            have hfk := hf k y hk
            have e1 : (pl ++ [x]).take k = pl.take k := take_snoc_get pl x (by omega)
            have e2 : ∀ j z, (pl.take k)[j]? = some z → (pl ++ [x]).take j = pl.take j := fun j z hz => by
              have := (List.getElem?_eq_some_iff.1 hz).1
              simp at this
              exact take_snoc_get pl x (by omega)
            unfold PFact at hfk ⊢
            simp only [e1] at hfk ⊢
            split
            · rename_i hg
              rw [hg] at hfk
              obtain ⟨a1, a2, a3, a4, a5, a6⟩ := hfk
              exact ⟨a1, a2, a3, a4, a5, fun j z hz => by rw [e2 j z hz]; exact a6 j z hz⟩
            · rename_i t b hg
              rw [hg] at hfk
              rcases hfk with ⟨c1, a1, a2, a3, a4, a5, a6⟩ | hfk
              · exact .inl ⟨c1, a1, a2, a3, a4, a5, fun j z hz => by rw [e2 j z hz]; exact a6 j z hz⟩
              · exact .inr hfk
          · have hke : k = pl.length := by
              have := (List.getElem?_eq_some_iff.1 hk).1
              simp at this; omega
            subst hke
            simp at hk; subst hk
            exact hx
        · intro j y hj hr hu
          by_cases hjl : j < pl.length
          · rw [List.getElem?_append_left hjl] at hj
            rw [take_snoc_get pl x (by omega)]
            exact hUU _ (hU j y hj hr hu)
          · have hje : j = pl.length := by
              have := (List.getElem?_eq_some_iff.1 hj).1
              simp at this; omega
            subst hje
            simp at hj; subst hj
            rw [hm, take_snoc_get pl x (Nat.le_refl _), List.take_length]
            exact hU' hr hu
        · rw [hlen, hms', tov_append, effs_append]
          simp only [Nat.zero_add, allL, cond_true]
          exact hev
      have hheap : ∀ op, (bif usesH op then hovL p n0 m H0 (effs 0 pl) else []) = heapAt p n0 H0 m op pl := by
        intro op
        unfold heapAt
        rw [hovL_eq]
      obtain ⟨d, op, g⟩ := so
      -- the operation is carried out
      have runs : ∀ (hg : ∀ x : PStep, x.so = ⟨d, op, g⟩ → x.ran = true → ResTo P (heapAt p n0 H0 m op pl) x.v x.e (evOp P (tov allL 0 pl T0) (heapAt p n0 H0 m op pl) ((n0 + pl.length) :: p) op) → oldIn x.e (heapAt p n0 H0 m op pl) →
            (∀ j y, pl[j]? = some y → m.testBit j = false → ∀ z ∈ wrs y.e ((n0 + j) :: p), hget (heapAt p n0 H0 m op pl) z = none) → (∀ j y, pl[j]? = some y → (n0 + pl.length) :: p ∉ wrs y.e ((n0 + j) :: p)) →
            (∀ j y, pl[j]? = some y → m.testBit j = false → y.ran = true → usesH y.so.op = true → ∀ z ∈ wrs x.e ((n0 + pl.length) :: p), hget (heapAt p n0 H0 (ms.getD j 0) y.so.op (pl.take j)) z = none) → PFact P p n0 H0 T0 ms (pl ++ [x]) pl.length x),
          clrE p n0 m ((n0 + pl.length) :: p) (bif usesH op then hovL p n0 m H0 (effs 0 pl) else []) (effs 0 pl) →
          evdR P (bif usesH op then hovL p n0 m H0 (effs 0 pl) else []) (fun v e => oldIn e (bif usesH op then hovL p n0 m H0 (effs 0 pl) else []) ∧ clrU m (wrs e ((n0 + pl.length) :: p)) U ∧ evd P p n0 H0 os ms' (pl.length + 1) (tset d v (tov allL 0 pl T0)) (eadd pl.length e (effs 0 pl)) (bif usesH op then U ++ [(pl.length, hovL p n0 m H0 (effs 0 pl))] else U) K)
            (evOp P (tov allL 0 pl T0) (bif usesH op then hovL p n0 m H0 (effs 0 pl) else []) ((n0 + pl.length) :: p) op) →
          ∃ pl', pl'.map (·.so) = pl.map (·.so) ++ ⟨d, op, g⟩ :: os ∧ (∀ k x, pl'[k]? = some x → PFact P p n0 H0 T0 ms pl' k x) ∧ K (tov allL 0 pl' T0) (hov p n0 allL 0 pl' H0) (n0 + pl'.length) := by
        intro hg hE hR
        rw [hheap] at hE hR
        obtain ⟨v, e, hres, hold, hcu, hev⟩ := evdR_to hR
        have hE' := clrE_spec pl 0 hE
        simp only [Nat.zero_add] at hE'
        refine go ⟨⟨d, op, g⟩, v, e, true⟩ _ rfl (hg _ rfl rfl hres hold (fun j y hj hb => (hE' j y hj).1 hb) (fun j y hj => (hE' j y hj).2) (fun j y hj hb hr hu => ?_)) ?_ ?_ hev
        · exact clrU_spec hcu _ (hU j y hj hr hu) hb
        · intro y hy
          cases usesH op with
          | true => simp [hy]
          | false => exact hy
        · intro _ hu
          have hu' : usesH op = true := hu
          rw [hu']
          simp only [cond_true, List.mem_append, List.mem_singleton]
          right
          have := hheap op
          rw [hu'] at this
          simp only [cond_true] at this
          rw [this]
      cases g with
      | none =>
        simp only [evd] at h
        refine runs ?_ h.1 h.2
        intro x hso hr h1 h2 h3 h4 h5
        have e1 : (pl ++ [x]).take pl.length = pl := by rw [take_snoc_get pl x (Nat.le_refl _), List.take_length]
        unfold PFact
        simp only [hso, e1, hm]
        exact ⟨hr, h1, h2, h3, h4, fun j y hj => by
          have := (List.getElem?_eq_some_iff.1 hj).1
          rw [take_snoc_get pl x (by omega)]; exact h5 j y hj⟩
      | some tb =>
        obtain ⟨t, b⟩ := tb
        simp only [evd] at h
        split at h
        · rename_i c hc
          by_cases hcb : c = b
          · obtain ⟨hE, hR⟩ := h.1 hcb
            refine runs ?_ hE hR
            intro x hso hr h1 h2 h3 h4 h5
            have e1 : (pl ++ [x]).take pl.length = pl := by rw [take_snoc_get pl x (Nat.le_refl _), List.take_length]
            unfold PFact
            simp only [hso, e1, hm]
            exact .inl ⟨by rw [hc, hcb], hr, h1, h2, h3, h4, fun j y hj => by
              have := (List.getElem?_eq_some_iff.1 hj).1
              rw [take_snoc_get pl x (by omega)]; exact h5 j y hj⟩
          · have hcb' : c = !b := by cases c <;> cases b <;> simp_all
            refine go ⟨⟨d, op, some (t, b)⟩, .tup [], .no, false⟩ U rfl ?_ (fun y hy => hy) (fun hr => by cases hr) (h.2 hcb')
            have e1 : (pl ++ [(⟨⟨d, op, some (t, b)⟩, .tup [], .no, false⟩ : PStep)]).take pl.length = pl := by rw [take_snoc_get pl _ (Nat.le_refl _), List.take_length]
            unfold PFact
            simp only [e1]
            exact .inr ⟨.inl (by rw [hc, hcb']), by trivial⟩
        · rename_i hc
          refine go ⟨⟨d, op, some (t, b)⟩, .tup [], .no, false⟩ U rfl ?_ (fun y hy => hy) (fun hr => by cases hr) h
          have e1 : (pl ++ [(⟨⟨d, op, some (t, b)⟩, .tup [], .no, false⟩ : PStep)]).take pl.length = pl := by rw [take_snoc_get pl _ (Nat.le_refl _), List.take_length]
          unfold PFact
          simp only [e1]
          exact .inr ⟨.inr hc, by trivial⟩
        · exact h.elim
end Go.Proofs.Ythmimpiegnnmdaa
