/- How a walk ends; lists of one's own are handed back as trees. -/
import Derived.Test.YthmimpiegnnmdaaAbs22
namespace Go.Proofs.Ythmimpiegnnmdaa
open Go.RowKit
set_option linter.unusedSimpArgs false
set_option linter.unusedVariables false

def resB (P : Program) (T : Tm) (H : Hp) : List ResultVar → List AV → Option (List AV)
  | [], acc => some acc.reverse
  | .tmp t :: r, acc => resB P T H r (tget T t :: acc)
  | .cell a t :: r, acc => match evLoad P H t (tget T a) with
    | .val v _ => resB P T H r (v :: acc)
    | _ => none
theorem resB_ok {P : Program} {T : Tm} {H : Hp} {K : List AV → Prop} : ∀ {rs : List ResultVar} {acc vs : List AV}, resB P T H rs acc = some vs → K vs → resK P T H rs acc K := by
  intro rs
  induction rs with
  | nil => intro acc vs h hk; cases h; exact hk
  | cons r rs ih =>
    intro acc vs h hk
    cases r with
    | tmp t => exact ih h hk
    | cell a t =>
      simp only [resB] at h
      simp only [resK]
      cases hl : evLoad P H t (tget T a) with
      | val v e => rw [hl] at h; exact ih h hk
      | _ => rw [hl] at h; cases h
/-- What is handed back, its lists of one's own read as trees. -/
def frzR (H : Hp) : AV → Option (AV × Hp)
  | .tup vs => match frzs vs H with
    | some (vs', H') => some (.tup vs', H')
    | none => none
  | v => frzV H v
theorem frzR_ok {B : Base} {w0 w : World} {σ : Facts} {ι : Where} {H H' : Hp} {v v' : AV} {u : Value} (hw : WR B w0 σ ι H w) (h : frzR H v = some (v', H')) (hv : VR σ ι v u) :
    ∃ σ', (∀ x y, σ x y → σ' x y) ∧ WR B w0 σ' ι H' w ∧ VR σ' ι v' u := by
  unfold frzR at h
  split at h
  · rename_i vs
    split at h
    · rename_i vs' H1 hf
      cases h
      cases hv with
      | tup _ us hl hv =>
      obtain ⟨σ', h1, h2, h3⟩ := frzs_ok _ _ _ _ _ _ _ hw hf (⟨hl, hv⟩ : VRs σ ι vs us)
      exact ⟨σ', h1, h2, .tup _ _ h3.1 h3.2⟩
    · cases h
  · obtain ⟨σ', h1, h2, h3⟩ := frzV_ok hw h
    exact ⟨σ', h1, h2, h3 u hv⟩
def PureZ (P : Program) (f : FuncId) (args : List AV) (v : AV) : Prop := CallOK P f args [] [] fun v1 H1 => ∃ v2 H2, frzR H1 v1 = some (v2, H2) ∧ Le v2 v
theorem pureZ_frame {P : Program} {f : FuncId} {args : List AV} {v : AV} (ha : args.all AV.cl = true) (hv : v.cl = true) (h : PureZ P f args v) : PureCall P f args v := by
  refine pure_frame ha hv ?_
  intro B w0 σ ι w us hw hq hus
  refine ⟨trivial, fun cs hr => ?_⟩
  obtain ⟨e, w', fr, ⟨v1, u, H', σ', ι', he, ⟨v2, H2, hf, hle⟩, h3, h4, h5, h6, h7⟩, x⟩ := (h B w0 σ ι w us hw hq hus).2 cs hr
  obtain ⟨σ2, l2, hw2, hv2⟩ := frzR_ok h4 hf h3
  exact ⟨e, w', fr, ⟨v, u, H2, σ2, ι', he, rfl, hle _ _ _ hv2, hw2, fun x y h => l2 _ _ (h5 x y h), h6, h7⟩, x⟩
/-- What a pure function's body must come to. -/
def endQ (P : Program) (rs : List ResultVar) (v : AV) : Exit → St → Prop := fun e s =>
  (e = .normal ∨ e = .ret) ∧ leaveD (tget s.T 1000000) s.H fun H' => resK P s.T H' rs [] (fun vs => ∃ v2 H2, frzR H' (retV vs) = some (v2, H2) ∧ Le v2 v)
theorem walk0 {P : Program} {f : FuncId} {fn : Func} {c : Code} {args : List AV} {v : AV} (rs : List ResultVar) (hf : P.funcs[f]? = some fn) (hb : fn.body = some c) (hn : (Nat.ble args.length fn.ntmps && Nat.ble fn.ntmps 1000000) = true) (hrs : fn.results.toList = rs)
    (ha : args.all AV.cl = true) (hv : v.cl = true) (h : AT ⟨P, none, fn.ntmps⟩ c (endQ P rs v) ⟨argT args 0, [], [], 0⟩) : PureCall P f args v := by
  subst hrs
  rw [Bool.and_eq_true] at hn
  exact pureZ_frame ha hv (call_of_at hf hb ⟨Nat.le_of_ble_eq_true hn.1, Nat.le_of_ble_eq_true hn.2⟩ h)
/-- The deferred calls of ranges over functions, at an activation's end. -/
def leaveB : AV → Hp → Option Hp
  | .any, H => some H
  | .ds l, H => go l H
  | _, _ => none
  where go : List AV → Hp → Option Hp
  | [], H => some H
  | .ptr id _ :: r, H => match hget H id with
    | some .dfr => go r (hset H id .gone)
    | _ => none
  | _ :: _, _ => none
theorem leaveB_ok {v : AV} {H H' : Hp} {K : Hp → Prop} (h : leaveB v H = some H') (hk : K H') : leaveD v H K := by
  have go : ∀ {l : List AV} {H : Hp}, leaveB.go l H = some H' → leaveK l H K := by
    intro l
    induction l with
    | nil => intro H h; cases h; exact hk
    | cons v l ih =>
      intro H h
      cases v with
      | ptr id off =>
        simp only [leaveB.go] at h
        split at h
        · rename_i e; exact ⟨e, ih h⟩
        · cases h
      | _ => cases h
  cases v with
  | any => cases h; exact hk
  | ds l => exact go h
  | _ => cases h
def endB (P : Program) (T : Tm) (H : Hp) (rs : List ResultVar) : Option (AV × Hp) := match leaveB (tget T 1000000) H with
  | none => none
  | some H' => match resB P T H' rs [] with
    | none => none
    | some vs => some (retV vs, H')
theorem fin0 {P : Program} {rs : List ResultVar} {v : AV} {e : Exit} {T : Tm} {H : Hp} {p : Id} {n : Nat} (he : e = .normal ∨ e = .ret) (v1 : AV) (H1 : Hp) (v2 : AV) {H2 : Hp} (hr : endB P T H rs = some (v1, H1)) (hf : frzR H1 v1 = some (v2, H2)) (hv : Le v2 v) : endQ P rs v e ⟨T, H, p, n⟩ := by
  refine ⟨he, ?_⟩
  unfold endB at hr
  split at hr
  · cases hr
  · rename_i H' hl
    split at hr
    · cases hr
    · rename_i vs hvs
      cases hr
      exact leaveB_ok hl (resB_ok hvs ⟨v2, H2, hf, hv⟩)
theorem frzs_nil {H : Hp} : frzs [] H = some ([], H) := rfl
theorem frzs_cons {v v' : AV} {r r' : List AV} {H H1 H2 : Hp} (h : frzV H v = some (v', H1)) (hs : frzs r H1 = some (r', H2)) : frzs (v :: r) H = some (v' :: r', H2) := by
  simp only [frzs, h, hs]
theorem frzR_one {H : Hp} {i : Id} {sz off len : Nat} {r : Option (AV × Hp)} (h : frzV H (.sl i sz off len) = r) : frzR H (.sl i sz off len) = r := h
theorem frzR_tup {vs vs' : List AV} {H H1 : Hp} (h : frzs vs H = some (vs', H1)) : frzR H (.tup vs) = some (.tup vs', H1) := by
  simp only [frzR, h]
theorem flat_app {α : Type} {enc : α → List TV} {l : List α} {as : List α} {cs : List (List TV)} (h : as.map enc = cs) : flat enc l ++ List.map AV.tv (List.flatten cs) = flat enc (l ++ as) := by
  subst h; simp [flat]
theorem flat_mk {α : Type} {enc : α → List TV} {as : List α} {cs : List (List TV)} (h : as.map enc = cs) : List.map AV.tv (List.flatten cs) = flat enc as := by
  subst h; rfl
/-- Two branches that come to one told state. -/
def mergeQ (T1 : Tm) (H1 : Hp) (p : Id) (n1 : Nat) : Exit → St → Prop := fun e s => e = .normal ∧ Gh s ⟨T1, H1, p, n1⟩
theorem at_merge {E : En} {Q : Exit → St → Prop} {c d : Code} {s : St} {p : Id} (T1 : Tm) (H1 : Hp) (n1 : Nat) (h : AT E c (mergeQ T1 H1 p n1) s) (hd : AT E d Q ⟨T1, H1, p, n1⟩) : AT E (.seq c d) Q s :=
  at_seq (at_mono h fun e s' ⟨he, hg⟩ => by subst he; exact at_pre hg hd)
theorem at_mergel {E : En} {Q : Exit → St → Prop} {c : Code} {s : St} {p : Id} (T1 : Tm) (H1 : Hp) (n1 : Nat) (h : AT E c (mergeQ T1 H1 p n1) s) (hd : Q .normal ⟨T1, H1, p, n1⟩) : AT E c Q s :=
  at_post h fun e s' ⟨he, hg⟩ => ⟨_, hg, by subst he; exact hd⟩
def keepH (l : List Id) (H : Hp) : Hp := H.filter fun x => l.any fun i => decide (i = x.1)
theorem keepH_sub (l : List Id) (H : Hp) : ∀ id o, hget (keepH l H) id = some o → hget H id = some o := by
  intro id o
  induction H with
  | nil => intro h; exact h
  | cons x r ih =>
    obtain ⟨i, y⟩ := x
    intro h
    simp only [keepH, List.filter_cons] at h
    by_cases e : i = id
    · subst e
      simp only [hget, if_true]
      split at h
      · simpa [hget] using h
      · rename_i hn
        have : hget (keepH l r) i = some o := h
        have hin : ∃ x ∈ keepH l r, x.1 = i := by
          clear ih hn h
          generalize keepH l r = K at this
          induction K with
          | nil => simp [hget] at this
          | cons z K ihk =>
            obtain ⟨j, w⟩ := z
            by_cases e : j = i
            · exact ⟨(j, w), by simp, e⟩
            · simp only [hget, if_neg e] at this
              obtain ⟨x, hx, hx2⟩ := ihk this
              exact ⟨x, by simp [hx], hx2⟩
        obtain ⟨x, hx, rfl⟩ := hin
        simp only [keepH, List.mem_filter] at hx
        exact absurd hx.2 hn
    · simp only [hget, if_neg e]
      refine ih ?_
      split at h
      · simp only [hget, if_neg e] at h; exact h
      · exact h
theorem gh_merge {T T1 : Tm} {H H1 : Hp} {p : Id} {n n1 : Nat} (l : List Nat) (k : List Id) (hT : (1000000, tget T 1000000) :: l.map (fun t => (t, tget T t)) = T1) (hH : keepH k H = H1) (hn : Nat.ble n n1 = true) : mergeQ T1 H1 p n1 .normal ⟨T, H, p, n⟩ := by
  subst hT hH
  exact ⟨rfl, Gh.less (tget_tkeep l T) rfl (keepH_sub k H) (Nat.le_of_ble_eq_true hn)⟩
/-- A call that is walked where it stands. -/
theorem call_in {P : Program} {f : FuncId} {fn : Func} {c : Code} {args : List AV} {H : Hp} {q : Id} {v : AV} {H' : Hp} (rs : List ResultVar) (hf : P.funcs[f]? = some fn) (hb : fn.body = some c) (hn : (Nat.ble args.length fn.ntmps && Nat.ble fn.ntmps 1000000) = true) (hrs : fn.results.toList = rs)
    (h : AT ⟨P, none, fn.ntmps⟩ c (fun e s => (e = .normal ∨ e = .ret) ∧ leaveD (tget s.T 1000000) s.H fun H1 => resK P s.T H1 rs [] (fun vs => retV vs = v ∧ ∀ id o, hget H' id = some o → hget H1 id = some o)) ⟨argT args 0, H, q, 0⟩) : CallOK P f args H q fun v1 H1 => v1 = v ∧ H1 = H' := by
  subst hrs
  rw [Bool.and_eq_true] at hn
  intro B w0 σ ι w us hw hq hus
  have hc := call_of_at (H := H) (q := q) (post := fun v' H1 => v' = v ∧ ∀ id o, hget H' id = some o → hget H1 id = some o) hf hb ⟨Nat.le_of_ble_eq_true hn.1, Nat.le_of_ble_eq_true hn.2⟩ h
  refine ⟨trivial, fun cs hr => ?_⟩
  obtain ⟨e, w', fr, ⟨v', u, H1, σ', ι', he, ⟨hv, hH⟩, hvr, hwr, rest⟩, x⟩ := (hc B w0 σ ι w us hw hq hus).2 cs hr
  exact ⟨e, w', fr, ⟨v', u, H', σ', ι', he, ⟨hv, rfl⟩, hvr, hwr.weaken hH, rest⟩, x⟩
theorem fin_in {P : Program} {rs : List ResultVar} {v : AV} {e : Exit} {T : Tm} {H H' : Hp} {p : Id} {n : Nat} (he : e = .normal ∨ e = .ret) (k : List Id) (v1 : AV) (H1 : Hp) (hr : endB P T H rs = some (v1, H1)) (hv : v1 = v) (hk : keepH k H1 = H') :
    (fun (e : Exit) (s : St) => (e = .normal ∨ e = .ret) ∧ leaveD (tget s.T 1000000) s.H fun H1 => resK P s.T H1 rs [] (fun vs => retV vs = v ∧ ∀ id o, hget H' id = some o → hget H1 id = some o)) e ⟨T, H, p, n⟩ := by
  subst hk hv
  refine ⟨he, ?_⟩
  unfold endB at hr
  split at hr
  · cases hr
  · rename_i H2 hl
    split at hr
    · cases hr
    · rename_i vs hvs
      cases hr
      exact leaveB_ok hl (resB_ok hvs ⟨rfl, keepH_sub k _⟩)
end Go.Proofs.Ythmimpiegnnmdaa
