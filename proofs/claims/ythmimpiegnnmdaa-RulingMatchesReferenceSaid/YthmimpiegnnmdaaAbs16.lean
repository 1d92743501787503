/- The rules as a printed walk uses them. -/
import Derived.Test.YthmimpiegnnmdaaAbs15
namespace Go.Proofs.Ythmimpiegnnmdaa
open Go.RowKit
set_option linter.unusedSimpArgs false
set_option linter.unusedVariables false

theorem hdel_fresh {H : Hp} {i : Id} (h : hget H i = none) : hdel H i = H := by
  induction H with
  | nil => rfl
  | cons x r ih =>
    obtain ⟨j, o⟩ := x
    simp only [hget] at h
    by_cases e : j = i
    · rw [if_pos e] at h; cases h
    · rw [if_neg e] at h
      simp only [hdel, if_neg e, ih h]
theorem hset_fresh {H : Hp} {i : Id} {o : AO} (h : hget H i = none) : hset H i o = H := by
  induction H with
  | nil => rfl
  | cons x r ih =>
    obtain ⟨j, y⟩ := x
    simp only [hget] at h
    by_cases e : j = i
    · rw [if_pos e] at h; cases h
    · rw [if_neg e] at h
      simp only [hset, if_neg e, ih h]
/-- No block of the heap has an id of one's own. -/
def Own (q : Id) (H : Hp) : Prop := ∀ a l, q <:+ l → hget H (a :: l) = none
theorem suf_ex {q l : Id} (a : Nat) (h : q <:+ l) : ∃ k, (k :: q) <:+ (a :: l) := by
  obtain ⟨t, rfl⟩ := h
  induction t generalizing a with
  | nil => exact ⟨a, List.suffix_refl _⟩
  | cons b t ih =>
    obtain ⟨k, hk⟩ := ih b
    exact ⟨k, hk.trans (List.suffix_cons _ _)⟩
theorem suf_self (q : Id) : (q <:+ q) = True := by simp
theorem suf_push {q l : Id} (a : Nat) (h : q <:+ l) : (q <:+ a :: l) = True := by
  simp only [eq_iff_iff, iff_true]; exact h.trans (List.suffix_cons _ _)
theorem Sub.refl (H : Hp) : Sub H H := fun _ _ h => h
theorem Sub.cons {H H' : Hp} {i : Id} {o : AO} (h : hget H i = none) (hs : Sub H H') : Sub H ((i, o) :: H') := by
  intro z x hz
  simp only [hget]
  by_cases e : i = z
  · subst e; rw [h] at hz; cases hz
  · rw [if_neg e]; exact hs z x hz
theorem Sub.set {H H' : Hp} {i : Id} {o : AO} (h : hget H i = none) (hs : Sub H H') : Sub H (hset H' i o) := by
  intro z x hz
  rw [hget_hset]
  by_cases e : i = z
  · subst e; rw [h] at hz; cases hz
  · rw [if_neg e]; exact hs z x hz
theorem Sub.del {H H' : Hp} {i : Id} (h : hget H i = none) (hs : Sub H H') : Sub H (hdel H' i) := by
  intro z x hz
  rw [hget_hdel]
  by_cases e : i = z
  · subst e; rw [h] at hz; cases hz
  · rw [if_neg e]; exact hs z x hz
/-- What a pure function's body must come to. -/
def pureQ (P : Program) (rs : List ResultVar) (H : Hp) (v : AV) : Exit → St → Prop := fun e s =>
  (e = .normal ∨ e = .ret) ∧ leaveD (tget s.T 1000000) s.H fun H' => resK P s.T H' rs [] (fun vs => retV vs = v) ∧ Sub H H'
theorem pure_walk {P : Program} {f : FuncId} {fn : Func} {c : Code} {args : List AV} {v : AV} (rs : List ResultVar) (hf : P.funcs[f]? = some fn) (hb : fn.body = some c) (hn : args.length ≤ fn.ntmps ∧ fn.ntmps ≤ 1000000) (hrs : fn.results.toList = rs)
    (h : ∀ H q, Own q H → AT ⟨P, none, fn.ntmps⟩ c (pureQ P rs H v) ⟨argT args 0, H, q, 0⟩) : PureCall P f args v := by
  subst hrs
  refine pure_of_at hf hb hn fun H q => ?_
  intro B w0 σ0 ι0 q' ds a w hs
  obtain ⟨σ, ι, hs'⟩ := hs
  refine h H q (fun a l hl => ?_) B w0 σ0 ι0 q' ds _ w ⟨σ, ι, hs'⟩
  cases hh : hget H (a :: l) with
  | none => rfl
  | some o =>
    exfalso
    obtain ⟨k, hk⟩ := suf_ex a hl
    exact hs'.wr.dom _ o hh (hs'.fr _ k (Nat.zero_le _) hk)
theorem retV_1 (v : AV) : retV [v] = v := rfl
theorem retV_2 (v u : AV) (r : List AV) : retV (v :: u :: r) = .tup (v :: u :: r) := rfl
/-- A loop whose rounds' states are told by x, over the temporaries that it was come to with. -/
def loopQ {X : Type} (l : List Nat) (p : Id) (n : Nat) (T : Tm) (ov : X → Tm) (hp : X → Hp) (inv : X → Nat → Prop) (μ : X → Nat) (k : Nat) (Q : Exit → St → Prop) : Exit → St → Prop
  | .normal, s => s.p = n :: p ∧ ∃ x, μ x < k ∧ inv x s.n ∧ tkeep l s.T = tkeep l (ov x ++ T) ∧ Sub (hp x) s.H
  | e, s => Q e ⟨s.T, s.H, p, n + 1⟩
theorem at_loopx {E : En} {Q : Exit → St → Prop} {body : Code} {T : Tm} {H : Hp} {p : Id} {n : Nat} {X : Type} (l : List Nat) (ov : X → Tm) (hp : X → Hp) (inv : X → Nat → Prop) (μ : X → Nat) (x0 : X)
    (h0 : inv x0 0) (hT : tkeep l T = tkeep l (ov x0 ++ T)) (hH : Sub (hp x0) H)
    (hb : ∀ x m, inv x m → AT E body (loopQ l p n T ov hp inv μ (μ x) Q) ⟨tkeep l (ov x ++ T), hp x, n :: p, m⟩) : AT E (.loop body) Q ⟨T, H, p, n⟩ := by
  refine at_loop (fun k T' H' m => ∃ x, inv x m ∧ k = μ x ∧ tkeep l T' = tkeep l (ov x ++ T) ∧ Sub (hp x) H') (μ x0) ⟨x0, h0, rfl, hT, hH⟩ ?_
  rintro k T' H' m ⟨x, hi, rfl, hT', hs⟩
  refine at_pre (Gh.keep l _ _ _ _) ?_
  rw [hT']
  refine at_pre (s' := ⟨tkeep l (ov x ++ T), hp x, n :: p, m⟩) (Gh.less (fun _ => .inl rfl) rfl hs (Nat.le_refl _)) ?_
  refine at_mono (hb x m hi) fun e s' h => ?_
  cases e with
  | normal =>
    obtain ⟨h1, x', h2, h3, h4, h5⟩ := h
    exact ⟨h1, μ x', h2, x', h3, rfl, h4, h5⟩
  | _ => exact h
/-- A region whose outcome is told once for all its branches. -/
theorem evs_len {P : Program} {p : Id} {K : Tm → Hp → Nat → Prop} : ∀ {os : List SOp} {T : Tm} {H : Hp} {n : Nat}, evs P p os T H n K → evs P p os T H n (fun T' H' n' => K T' H' n' ∧ n' ≤ n + os.length) := by
  have rm : ∀ {r : Res} {d : Option Nat} {T : Tm} {H : Hp} {n : Nat} {K K' : Tm → Hp → Nat → Prop}, (∀ T H, K T H (n + 1) → K' T H (n + 1)) → evr P p d T H n K r → evr P p d T H n K' r := by
    intro r
    induction r with
    | val v e => intro d T H n K K' hk h; exact hk _ _ h
    | need c r ih => intro d T H n K K' hk h; exact ⟨h.1, ih hk h.2⟩
    | call f args => intro d T H n K K' hk h; obtain ⟨a, H0, h1, post, h2, h3⟩ := h; exact ⟨a, H0, h1, post, h2, fun v H' hp => hk _ _ (h3 v H' hp)⟩
    | yld i args => intro d T H n K K' hk h; obtain ⟨post, h1, h2⟩ := h; exact ⟨post, h1, fun v H' hp => hk _ _ (h2 v H' hp)⟩
    | fail => intro d T H n K K' hk h; exact h
  intro os
  induction os with
  | nil => intro T H n h; exact ⟨h, Nat.le_refl _⟩
  | cons o os ih =>
    intro T H n h
    obtain ⟨d, op, g⟩ := o
    have up : ∀ T H, evs P p os T H (n + 1) K → evs P p os T H (n + 1) (fun T' H' n' => K T' H' n' ∧ n' ≤ n + (os.length + 1)) := fun T H h => evs_mono (fun _ _ _ h => ⟨h.1, by have := h.2; omega⟩) (ih h)
    cases g with
    | none => exact rm up h
    | some tb =>
      obtain ⟨t, b⟩ := tb
      simp only [evs] at h ⊢
      split at h
      · exact ⟨fun e => rm up (h.1 e), fun e => up _ _ (h.2 e)⟩
      · exact up _ _ h
      · exact h.elim
theorem at_regp {E : En} {Q : Exit → St → Prop} {id : Nat} {ops : Array Oper} {d : Code} {os : List SOp} {T : Tm} {H : Hp} {p : Id} {n : Nat} (l : List Nat) (T1 : Tm) (H1 : Hp) (hsl : slim E.nt ops = some os)
    (h : evs E.P p os T H n (fun T' H' n' => tkeep l T' = T1 ∧ H' = H1)) (hd : AT E d Q ⟨T1, H1, p, n + os.length⟩) : AT E (.seq (.region id ops false) d) Q ⟨T, H, p, n⟩ :=
  at_seq (at_region hsl (evs_mono (fun T' H' n' ⟨⟨h1, h2⟩, h3⟩ => at_pre (Gh.trans (Gh.keep l _ _ _ _) (Gh.less (n' := n + os.length) (fun _ => .inl rfl) rfl (fun _ _ h => h) h3)) (by rw [h1, h2]; exact hd)) (evs_len h)))
theorem at_reglp {E : En} {Q : Exit → St → Prop} {id : Nat} {ops : Array Oper} {os : List SOp} {T : Tm} {H : Hp} {p : Id} {n : Nat} (l : List Nat) (T1 : Tm) (H1 : Hp) (hsl : slim E.nt ops = some os)
    (h : evs E.P p os T H n (fun T' H' n' => tkeep l T' = T1 ∧ H' = H1)) (hd : Q .normal ⟨T1, H1, p, n + os.length⟩) : AT E (.region id ops false) Q ⟨T, H, p, n⟩ :=
  at_post (Q' := fun e s => e = .normal ∧ ∃ T' H' n', s = ⟨T', H', p, n'⟩ ∧ tkeep l T' = T1 ∧ H' = H1 ∧ n' ≤ n + os.length) (at_region hsl (evs_mono (fun T' H' n' hk => ⟨rfl, T', H', n', rfl, hk.1.1, hk.1.2, hk.2⟩) (evs_len h)))
    (fun e s ⟨he, T', H', n', hs, h1, h2, h3⟩ => ⟨⟨T1, H1, p, n + os.length⟩, by subst hs; exact Gh.trans (Gh.keep l _ _ _ _) (by rw [h1, h2]; exact Gh.less (fun _ => .inl rfl) rfl (fun _ _ h => h) h3), by subst he; exact hd⟩)
theorem evd_len {P : Program} {p : Id} {n0 : Nat} {H0 : Hp} {K : Tm → Hp → Nat → Prop} : ∀ {os : List SOp} {ms : List Nat} {k : Nat} {T : Tm} {E : List (Nat × Eff)} {U : List (Nat × Hp)},
    evd P p n0 H0 os ms k T E U K → evd P p n0 H0 os ms k T E U (fun T' H' n' => K T' H' n' ∧ n' ≤ n0 + (k + os.length)) := by
  have rmono : ∀ {r : Res} {H : Hp} {K K' : AV → Eff → Prop}, (∀ v e, K v e → K' v e) → evdR P H K r → evdR P H K' r := by
    intro r
    induction r with
    | val v e => intro H K K' hk h; exact hk _ _ h
    | need c r ih => intro H K K' hk h; exact ⟨h.1, ih hk h.2⟩
    | call f args =>
      rintro H K K' hk (⟨v, h1, h2⟩ | ⟨a, i, o, v, h1, h2, h3⟩)
      · exact .inl ⟨v, h1, hk _ _ h2⟩
      · exact .inr ⟨a, i, o, v, h1, h2, hk _ _ h3⟩
    | yld i args => intro H K K' hk h; exact h
    | fail => intro H K K' hk h; exact h
  intro os
  induction os with
  | nil => intro ms k T E U h; exact ⟨h, by simp⟩
  | cons o os ih =>
    intro ms k T E U h
    obtain ⟨d, op, g⟩ := o
    have up : ∀ {ms T E U}, evd P p n0 H0 os ms (k + 1) T E U K → evd P p n0 H0 os ms (k + 1) T E U (fun T' H' n' => K T' H' n' ∧ n' ≤ n0 + (k + (os.length + 1))) := fun h => evd_mono (fun _ _ _ h => ⟨h.1, by have := h.2; omega⟩) (ih h)
    cases ms with
    | nil => cases g <;> simp [evd] at h
    | cons m ms =>
      cases g with
      | none =>
        simp only [evd] at h ⊢
        exact ⟨h.1, rmono (fun v e h => ⟨h.1, h.2.1, up h.2.2⟩) h.2⟩
      | some tb =>
        obtain ⟨t, b⟩ := tb
        simp only [evd] at h ⊢
        split at h
        · exact ⟨fun e => ⟨(h.1 e).1, rmono (fun v e h => ⟨h.1, h.2.1, up h.2.2⟩) (h.1 e).2⟩, fun e => up (h.2 e)⟩
        · exact up h
        · exact h.elim
theorem at_drwp {E : En} {Q : Exit → St → Prop} {id : Nat} {ops : Array Oper} {d : Code} {os : List SOp} {T : Tm} {H : Hp} {p : Id} {n : Nat} (l : List Nat) (ms : List Nat) (T1 : Tm) (H1 : Hp) (hmix : E.P.follows .mixedOrders = true) (hsl : slim E.nt ops = some os) (hok : drawOk ops os ms = true)
    (h : evd E.P p n H os ms 0 T [] [] (fun T' H' n' => tkeep l T' = T1 ∧ H' = H1)) (hd : AT E d Q ⟨T1, H1, p, n + (0 + os.length)⟩) : AT E (.seq (.region id ops true) d) Q ⟨T, H, p, n⟩ :=
  at_seq (at_draw ms hmix hsl hok (evd_mono (fun T' H' n' ⟨⟨h1, h2⟩, h3⟩ => at_pre (Gh.trans (Gh.keep l _ _ _ _) (Gh.less (n' := n + (0 + os.length)) (fun _ => .inl rfl) rfl (fun _ _ h => h) h3)) (by rw [h1, h2]; exact hd)) (evd_len h)))
theorem at_drwlp {E : En} {Q : Exit → St → Prop} {id : Nat} {ops : Array Oper} {os : List SOp} {T : Tm} {H : Hp} {p : Id} {n : Nat} (l : List Nat) (ms : List Nat) (T1 : Tm) (H1 : Hp) (hmix : E.P.follows .mixedOrders = true) (hsl : slim E.nt ops = some os) (hok : drawOk ops os ms = true)
    (h : evd E.P p n H os ms 0 T [] [] (fun T' H' n' => tkeep l T' = T1 ∧ H' = H1)) (hd : Q .normal ⟨T1, H1, p, n + (0 + os.length)⟩) : AT E (.region id ops true) Q ⟨T, H, p, n⟩ :=
  at_post (Q' := fun e s => e = .normal ∧ ∃ T' H' n', s = ⟨T', H', p, n'⟩ ∧ tkeep l T' = T1 ∧ H' = H1 ∧ n' ≤ n + (0 + os.length)) (at_draw ms hmix hsl hok (evd_mono (fun T' H' n' hk => ⟨rfl, T', H', n', rfl, hk.1.1, hk.1.2, hk.2⟩) (evd_len h)))
    (fun e s ⟨he, T', H', n', hs, h1, h2, h3⟩ => ⟨⟨T1, H1, p, n + (0 + os.length)⟩, by subst hs; exact Gh.trans (Gh.keep l _ _ _ _) (by rw [h1, h2]; exact Gh.less (fun _ => .inl rfl) rfl (fun _ _ h => h) h3), by subst he; exact hd⟩)
end Go.Proofs.Ythmimpiegnnmdaa
