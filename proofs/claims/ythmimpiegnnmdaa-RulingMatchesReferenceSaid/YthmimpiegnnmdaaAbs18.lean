/- Guards without branches: what a guarded operation gives is told under its condition. -/
import Derived.Test.YthmimpiegnnmdaaAbs17
namespace Go.Proofs.Ythmimpiegnnmdaa
open Go.RowKit
set_option linter.unusedSimpArgs false
set_option linter.unusedVariables false

inductive CV where
  | v (a : AV)
  | c (g : Bool) (a : AV)
abbrev Cm := List (Nat × CV)
def cget : Cm → Nat → CV
  | [], _ => .v .any
  | (t, x) :: r, n => if t = n then x else cget r n
def low (G : Bool) : CV → AV
  | .v a => a
  | .c g a => bif (!G || g) then a else .tup []
def lowC (G : Bool) (C : Cm) : Tm := C.map fun x => (x.1, low G x.2)
def up (T : Tm) : Cm := T.map fun x => (x.1, .v x.2)
theorem tget_lowC (G : Bool) (C : Cm) (t : Nat) : tget (lowC G C) t = low G (cget C t) := by
  induction C with
  | nil => rfl
  | cons x r ih =>
    obtain ⟨k, y⟩ := x
    simp only [lowC, List.map_cons, tget, cget]
    split
    · rfl
    · exact ih
theorem cget_up (T : Tm) (t : Nat) : cget (up T) t = .v (tget T t) := by
  induction T with
  | nil => rfl
  | cons x r ih =>
    obtain ⟨k, y⟩ := x
    simp only [up, List.map_cons, tget, cget]
    split
    · rfl
    · exact ih
def cgo (C : Cm) : Operand → CV
  | .tmp t => cget C t
  | .const v => .v (ofV v)
  | .func f => .v (.tv (.fn f))
  | .global _ => .v .any
def gOf (C : Cm) (g : Option (Nat × Bool)) : Option Bool := match g with
  | none => some true
  | some (t, b) => match cget C t with
    | .v (.tv (.bool c)) => some (bif b then c else !c)
    | .c g (.tv (.bool c)) => some (g && (bif b then c else !c))
    | _ => none
def cvOf (g : Option (Nat × Bool)) (G : Bool) (v : AV) : CV := match g with
  | none => .v v
  | some _ => .c G v
def cset (d : Option Nat) (x : CV) (C : Cm) : Cm := match d with
  | some d => (d, x) :: C
  | none => C
/-- A token: what comes behind a call is held till the call is told. -/
inductive Hd where
  | go
def stop : Hd := .go
def evc (P : Program) (id : Id) (g : Option (Nat × Bool)) (G : Bool) (H : Hp) (K K2 : AV → Hp → Prop) : Res → Prop
  | .val v e => match g, e with
    | none, e => K v (e.app H id)
    | some _, .no => K v H
    | some _, _ => False
  | .need q r => (G = true → q) ∧ evc P id g G H K K2 r
  | .call f args => match g with
    | none => callK P f args H id K2
    | some _ => ∃ v, (G = true → PureCall P f args v) ∧ K2 v H
  | .yld i args => match g with
    | none => ∃ post, YldOK P i args H id post ∧ ∀ v H', post v H' → K2 v H'
    | some _ => False
  | .fail => False
def evm (P : Program) (p : Id) : Hd → List SOp → Cm → Hp → Nat → (Cm → Hp → Nat → Prop) → Prop
  | .go, [], C, H, n, K => K C H n
  | .go, ⟨d, op, g⟩ :: os, C, H, n, K => match gOf C g with
    | none => False
    | some G => match op with
      | .pick x a b => match low G (cgo C x) with
        | .tv (.bool c) => evm P p .go os (cset d (cvOf g G (bif c then low (G && c) (cgo C a) else low (G && !c) (cgo C b))) C) H (n + 1) K
        | _ => False
      | op => evc P (n :: p) g G H (fun v H' => evm P p .go os (cset d (cvOf g G v) C) H' (n + 1) K) (fun v H' => evm P p stop os (cset d (cvOf g G v) C) H' (n + 1) K) (evOp P (lowC G C) H (n :: p) op)
theorem evm_stop {P : Program} {p : Id} {os : List SOp} {C : Cm} {H : Hp} {n : Nat} {K : Cm → Hp → Nat → Prop} : evm P p stop os C H n K = evm P p .go os C H n K := rfl

def Rel (C : Cm) (T : Tm) : Prop := ∀ t, tget T t = low true (cget C t)
theorem Rel.up (T : Tm) : Rel (up T) T := fun t => by rw [cget_up]; rfl
theorem Rel.set {C : Cm} {T : Tm} (h : Rel C T) (d : Option Nat) {x : CV} {v : AV} (hv : low true x = v) : Rel (cset d x C) (tset d v T) := by
  cases d with
  | none => exact h
  | some d =>
    intro t
    simp only [tset, cset, tget, cget]
    split
    · exact hv.symm
    · exact h t
theorem Rel.evo {C : Cm} {T : Tm} (h : Rel C T) (x : Operand) : evo T x = low true (cgo C x) := by
  cases x with
  | tmp t => exact h t
  | const v => rfl
  | func f => rfl
  | global g => rfl
theorem Rel.op {C : Cm} {T : Tm} (h : Rel C T) {P : Program} {H : Hp} {id : Id} {op : Op} : evOp P (lowC true C) H id op = evOp P T H id op :=
  evOp_congr fun t _ => by rw [tget_lowC]; exact (h t).symm
theorem gOf_some {C : Cm} {T : Tm} (h : Rel C T) {t : Nat} {b G : Bool} (hg : gOf C (some (t, b)) = some G) : (G = true ∧ tget T t = .tv (.bool b)) ∨ (G = false ∧ (tget T t = .tv (.bool !b) ∨ tget T t = .tup [])) := by
  unfold gOf at hg
  have ht := h t
  simp only at hg
  split at hg
  · rename_i c hc
    simp only [Option.some.injEq] at hg
    rw [hc] at ht
    simp only [low] at ht
    cases b <;> cases c <;> subst hg <;> simp [ht]
  · rename_i g c hc
    simp only [Option.some.injEq] at hg
    rw [hc] at ht
    simp only [low, Bool.not_true, Bool.false_or] at ht
    cases g <;> cases b <;> cases c <;> subst hg <;> simp [ht]
  · cases hg
theorem evc_none {P : Program} {p : Id} {n : Nat} {d : Option Nat} {T : Tm} {H : Hp} {K K2 : AV → Hp → Prop} {K' : Tm → Hp → Nat → Prop} (hk : ∀ v H', K v H' → K' (tset d v T) H' (n + 1)) (hk2 : ∀ v H', K2 v H' → K' (tset d v T) H' (n + 1)) : ∀ {r : Res}, evc P (n :: p) none true H K K2 r → evr P p d T H n K' r := by
  intro r
  induction r with
  | val v e => intro h; exact hk _ _ h
  | need q r ih => intro h; exact ⟨h.1 rfl, ih h.2⟩
  | call f args => intro h; obtain ⟨a, H0, h1, post, h2, h3⟩ := h; exact ⟨a, H0, h1, post, h2, fun v H' hp => hk2 _ _ (h3 v H' hp)⟩
  | yld i args => intro h; obtain ⟨post, h1, h2⟩ := h; exact ⟨post, h1, fun v H' hp => hk2 _ _ (h2 v H' hp)⟩
  | fail => intro h; exact h
theorem evc_run {P : Program} {p : Id} {n : Nat} {d : Option Nat} {T : Tm} {H : Hp} {g : Nat × Bool} {K K2 : AV → Hp → Prop} {K' : Tm → Hp → Nat → Prop} (hk : ∀ v, K v H → K' (tset d v T) H (n + 1)) (hk2 : ∀ v, K2 v H → K' (tset d v T) H (n + 1)) : ∀ {r : Res}, evc P (n :: p) (some g) true H K K2 r → evr P p d T H n K' r := by
  intro r
  induction r with
  | val v e => cases e <;> intro h <;> first | exact hk _ h | exact h.elim
  | need q r ih => intro h; exact ⟨h.1 rfl, ih h.2⟩
  | call f args =>
    intro h
    obtain ⟨v, h1, h2⟩ := h
    exact callK_pure (h1 rfl) (hk2 _ h2)
  | yld i args => intro h; exact h.elim
  | fail => intro h; exact h
theorem evc_skip {P : Program} {id : Id} {H : Hp} {G : Bool} {g : Nat × Bool} {K K2 : AV → Hp → Prop} : ∀ {r : Res}, evc P id (some g) G H K K2 r → ∃ v, K v H ∨ K2 v H := by
  intro r
  induction r with
  | val v e => cases e <;> intro h <;> first | exact ⟨_, .inl h⟩ | exact h.elim
  | need q r ih => intro h; exact ih h.2
  | call f args => intro h; obtain ⟨v, h1, h2⟩ := h; exact ⟨v, .inr h2⟩
  | yld i args => intro h; exact h.elim
  | fail => intro h; exact h.elim
theorem low_pick {c : Bool} {x y : CV} : low true (.v (bif c then low (true && c) x else low (true && !c) y)) = bif c then low true x else low true y := by
  cases c <;> rfl
theorem evm_evs {P : Program} {p : Id} {K : Cm → Hp → Nat → Prop} {K' : Tm → Hp → Nat → Prop} (hk : ∀ C T H n, Rel C T → K C H n → K' T H n) :
    ∀ {os : List SOp} {hd : Hd} {C : Cm} {T : Tm} {H : Hp} {n : Nat}, Rel C T → evm P p hd os C H n K → evs P p os T H n K' := by
  intro os
  induction os with
  | nil => intro hd C T H n hr h; cases hd; exact hk _ _ _ _ hr h
  | cons so os ih =>
    intro hd C T H n hr h
    cases hd
    obtain ⟨d, op, g⟩ := so
    cases hG : gOf C g with
    | none => cases op <;> simp [evm, hG] at h
    | some G =>
      cases g with
      | none =>
        have hGt : G = true := by simp only [gOf, Option.some.injEq] at hG; exact hG.symm
        subst hGt
        simp only [evs]
        by_cases hp : ∃ x a b, op = .pick x a b
        · obtain ⟨x, a, b, rfl⟩ := hp
          simp only [evm, hG] at h
          split at h
          · rename_i c hc
            show evr P p d T H n _ (evPick (evo T x) (evo T a) (evo T b))
            rw [hr.evo x, hc]
            exact ih (hr.set d (by rw [hr.evo a, hr.evo b]; exact low_pick)) h
          · exact h.elim
        · have h' : evc P (n :: p) none true H (fun v H' => evm P p .go os (cset d (.v v) C) H' (n + 1) K) (fun v H' => evm P p stop os (cset d (.v v) C) H' (n + 1) K) (evOp P (lowC true C) H (n :: p) op) := by
            cases op <;> first | (exact absurd ⟨_, _, _, rfl⟩ hp) | (simp only [evm, hG] at h; exact h)
          rw [hr.op] at h'
          exact evc_none (fun v H' h => ih (hr.set d rfl) h) (fun v H' h => ih (hr.set d rfl) h) h'
      | some tb =>
        obtain ⟨t, b⟩ := tb
        have hsk : ∀ hd C' H', Rel C' (tset d (.tup []) T) → evm P p hd os C' H' (n + 1) K → evs P p os (tset d (.tup []) T) H' (n + 1) K' := fun hd C' H' h1 h2 => ih h1 h2
        have both : ((G = true → evr P p d T H n (fun T' H' n' => evs P p os T' H' n' K') (evOp P T H (n :: p) op)) ∧ (G = false → evs P p os (tset d (.tup []) T) H (n + 1) K')) := by
          by_cases hp : ∃ x a b, op = .pick x a b
          · obtain ⟨x, a, b', rfl⟩ := hp
            simp only [evm, hG] at h
            split at h
            · rename_i c hc
              refine ⟨fun hGt => ?_, fun hGf => ?_⟩
              · subst hGt
                show evr P p d T H n _ (evPick (evo T x) (evo T a) (evo T b'))
                rw [hr.evo x, hc]
                refine ih (hr.set d (x := .c true _) ?_) h
                rw [hr.evo a, hr.evo b']
                exact low_pick (c := c) (x := cgo C a) (y := cgo C b')
              · subst hGf
                exact hsk _ _ _ (hr.set d rfl) h
            · exact h.elim
          · have h' : evc P (n :: p) (some (t, b)) G H (fun v H' => evm P p .go os (cset d (.c G v) C) H' (n + 1) K) (fun v H' => evm P p stop os (cset d (.c G v) C) H' (n + 1) K) (evOp P (lowC G C) H (n :: p) op) := by
              cases op <;> first | (exact absurd ⟨_, _, _, rfl⟩ hp) | (simp only [evm, hG] at h; exact h)
            refine ⟨fun hGt => ?_, fun hGf => ?_⟩
            · subst hGt
              rw [hr.op] at h'
              exact evc_run (fun v h => ih (hr.set d rfl) h) (fun v h => ih (hr.set d rfl) h) h'
            · subst hGf
              obtain ⟨v, hv | hv⟩ := evc_skip h'
              · exact hsk _ _ _ (hr.set d rfl) hv
              · exact hsk _ _ _ (hr.set d rfl) hv
        simp only [evs]
        rcases gOf_some hr hG with ⟨hGt, ht⟩ | ⟨hGf, ht | ht⟩
        · rw [ht]; exact ⟨fun _ => both.1 hGt, fun e => by cases b <;> cases e⟩
        · rw [ht]; exact ⟨fun e => (by cases b <;> cases e), fun _ => both.2 hGf⟩
        · rw [ht]; exact both.2 hGf

/-! ### The same for an order that is drawn -/
def evdc (P : Program) (g : Option (Nat × Bool)) (G : Bool) (H : Hp) (K K2 : AV → Eff → Prop) : Res → Prop
  | .val v e => match g, e with
    | none, e => K v e
    | some _, .no => K v .no
    | some _, _ => False
  | .need q r => (G = true → q) ∧ evdc P g G H K K2 r
  | .call f args => match g with
    | none => (∃ v, PureCall P f args v ∧ K2 v .no) ∨ (∃ args' i o v, frz1 H args = some (args', i, o) ∧ PureCall P f args' v ∧ K2 v (.upd i o))
    | some _ => ∃ v, (G = true → PureCall P f args v) ∧ K2 v .no
  | _ => False
def evdm (P : Program) (p : Id) (n0 : Nat) (H0 : Hp) : Hd → List SOp → List Nat → Nat → Cm → List (Nat × Eff) → List (Nat × Hp) → (Cm → Hp → Nat → Prop) → Prop
  | .go, [], _, k, C, E, _, K => K C (hovA p n0 H0 E) (n0 + k)
  | .go, _ :: _, [], _, _, _, _, _ => False
  | .go, ⟨d, op, g⟩ :: os, m :: ms, k, C, E, U, K => match gOf C g with
    | none => False
    | some G => clrE p n0 m ((n0 + k) :: p) (bif usesH op then hovL p n0 m H0 E else []) E ∧ match op with
      | .pick x a b => match low G (cgo C x) with
        | .tv (.bool c) => evdm P p n0 H0 .go os ms (k + 1) (cset d (cvOf g G (bif c then low (G && c) (cgo C a) else low (G && !c) (cgo C b))) C) E U K
        | _ => False
      | op => evdc P g G (bif usesH op then hovL p n0 m H0 E else []) (fun v e => oldIn e (bif usesH op then hovL p n0 m H0 E else []) ∧ clrU m (wrs e ((n0 + k) :: p)) U ∧ evdm P p n0 H0 .go os ms (k + 1) (cset d (cvOf g G v) C) (eadd k e E) (bif usesH op then U ++ [(k, hovL p n0 m H0 E)] else U) K)
          (fun v e => oldIn e (bif usesH op then hovL p n0 m H0 E else []) ∧ clrU m (wrs e ((n0 + k) :: p)) U ∧ evdm P p n0 H0 stop os ms (k + 1) (cset d (cvOf g G v) C) (eadd k e E) (bif usesH op then U ++ [(k, hovL p n0 m H0 E)] else U) K)
          (evOp P (lowC G C) (bif usesH op then hovL p n0 m H0 E else []) ((n0 + k) :: p) op)
theorem evdm_stop {P : Program} {p : Id} {n0 : Nat} {H0 : Hp} {os : List SOp} {ms : List Nat} {k : Nat} {C : Cm} {E : List (Nat × Eff)} {U : List (Nat × Hp)} {K : Cm → Hp → Nat → Prop} : evdm P p n0 H0 stop os ms k C E U K = evdm P p n0 H0 .go os ms k C E U K := by
  unfold stop; rfl
theorem clrU_sub {m : Nat} {xs : List Id} {U U' : List (Nat × Hp)} (hs : ∀ x ∈ U, x ∈ U') (h : clrU m xs U') : clrU m xs U := by
  have all : ∀ x ∈ U', (bif m.testBit x.1 then True else clr xs x.2) := by
    clear hs
    induction U' with
    | nil => intro x hx; simp at hx
    | cons y r ih =>
      intro x hx
      simp at hx
      rcases hx with rfl | hx
      · exact h.1
      · exact ih h.2 x hx
  induction U with
  | nil => trivial
  | cons y r ih => exact ⟨all _ (hs y (by simp)), ih fun x hx => hs x (by simp [hx])⟩
theorem clrU_nil (m : Nat) (U : List (Nat × Hp)) : clrU m [] U := by
  induction U with
  | nil => trivial
  | cons y r ih => exact ⟨by cases m.testBit y.1 <;> trivial, ih⟩
theorem evdc_none {P : Program} {H : Hp} {K K2 K' : AV → Eff → Prop} (hk : ∀ v e, K v e → K' v e) (hk2 : ∀ v e, K2 v e → K' v e) : ∀ {r : Res}, evdc P none true H K K2 r → evdR P H K' r := by
  intro r
  induction r with
  | val v e => intro h; exact hk _ _ h
  | need q r ih => intro h; exact ⟨h.1 rfl, ih h.2⟩
  | call f args =>
    rintro (⟨v, h1, h2⟩ | ⟨a, i, o, v, h1, h2, h3⟩)
    · exact .inl ⟨v, h1, hk2 _ _ h2⟩
    · exact .inr ⟨a, i, o, v, h1, h2, hk2 _ _ h3⟩
  | yld i args => intro h; exact h
  | fail => intro h; exact h
theorem evdc_run {P : Program} {H : Hp} {g : Nat × Bool} {K K2 K' : AV → Eff → Prop} (hk : ∀ v, K v .no → K' v .no) (hk2 : ∀ v, K2 v .no → K' v .no) : ∀ {r : Res}, evdc P (some g) true H K K2 r → evdR P H K' r := by
  intro r
  induction r with
  | val v e => cases e <;> intro h <;> first | exact hk _ h | exact h.elim
  | need q r ih => intro h; exact ⟨h.1 rfl, ih h.2⟩
  | call f args => intro h; obtain ⟨v, h1, h2⟩ := h; exact .inl ⟨v, h1 rfl, hk2 _ h2⟩
  | yld i args => intro h; exact h
  | fail => intro h; exact h
theorem evdc_skip {P : Program} {H : Hp} {G : Bool} {g : Nat × Bool} {K K2 : AV → Eff → Prop} : ∀ {r : Res}, evdc P (some g) G H K K2 r → ∃ v, K v .no ∨ K2 v .no := by
  intro r
  induction r with
  | val v e => cases e <;> intro h <;> first | exact ⟨_, .inl h⟩ | exact h.elim
  | need q r ih => intro h; exact ih h.2
  | call f args => intro h; obtain ⟨v, h1, h2⟩ := h; exact ⟨v, .inr h2⟩
  | yld i args => intro h; exact h.elim
  | fail => intro h; exact h.elim
theorem evdm_evd {P : Program} {p : Id} {n0 : Nat} {H0 : Hp} {K : Cm → Hp → Nat → Prop} {K' : Tm → Hp → Nat → Prop} (hk : ∀ C T H n, Rel C T → K C H n → K' T H n) :
    ∀ {os : List SOp} {hd : Hd} {ms : List Nat} {k : Nat} {C : Cm} {T : Tm} {E : List (Nat × Eff)} {U U' : List (Nat × Hp)}, Rel C T → (∀ x ∈ U, x ∈ U') → evdm P p n0 H0 hd os ms k C E U' K → evd P p n0 H0 os ms k T E U K' := by
  intro os
  induction os with
  | nil => intro hd ms k C T E U U' hr _ h; cases hd; exact hk _ _ _ _ hr h
  | cons so os ih =>
    intro hd ms k C T E U U' hr hU h
    cases hd
    obtain ⟨d, op, g⟩ := so
    cases ms with
    | nil => simp [evdm] at h
    | cons m ms =>
      cases hG : gOf C g with
      | none => cases op <;> simp [evdm, hG] at h
      | some G =>
        have hUc : ∀ (c : Bool) (x : Nat × Hp), ∀ y ∈ (bif c then U ++ [x] else U), y ∈ (bif c then U' ++ [x] else U') := by
          intro c x y hy
          cases c
          · exact hU y hy
          · simp at hy ⊢
            exact hy.imp (hU y) id
        have hUs : ∀ (c : Bool) (x : Nat × Hp), ∀ y ∈ U, y ∈ (bif c then U' ++ [x] else U') := by
          intro c x y hy
          cases c
          · exact hU y hy
          · simp; exact .inl (hU y hy)
        have hsplit : clrE p n0 m ((n0 + k) :: p) (bif usesH op then hovL p n0 m H0 E else []) E := by
          cases op <;> (simp only [evdm, hG] at h; exact h.1)
        cases g with
        | none =>
          have hGt : G = true := by simp only [gOf, Option.some.injEq] at hG; exact hG.symm
          subst hGt
          simp only [evd]
          refine ⟨hsplit, ?_⟩
          by_cases hp : ∃ x a b, op = .pick x a b
          · obtain ⟨x, a, b, rfl⟩ := hp
            simp only [evdm, hG] at h
            have h := h.2
            split at h
            · rename_i c hc
              show evdR P _ _ (evPick (evo T x) (evo T a) (evo T b))
              rw [hr.evo x, hc]
              exact ⟨trivial, clrU_nil _ _, ih (hr.set d (by rw [hr.evo a, hr.evo b]; exact low_pick)) hU h⟩
            · exact h.elim
          · have h' : evdc P none true (bif usesH op then hovL p n0 m H0 E else []) (fun v e => oldIn e (bif usesH op then hovL p n0 m H0 E else []) ∧ clrU m (wrs e ((n0 + k) :: p)) U' ∧ evdm P p n0 H0 .go os ms (k + 1) (cset d (.v v) C) (eadd k e E) (bif usesH op then U' ++ [(k, hovL p n0 m H0 E)] else U') K)
                (fun v e => oldIn e (bif usesH op then hovL p n0 m H0 E else []) ∧ clrU m (wrs e ((n0 + k) :: p)) U' ∧ evdm P p n0 H0 stop os ms (k + 1) (cset d (.v v) C) (eadd k e E) (bif usesH op then U' ++ [(k, hovL p n0 m H0 E)] else U') K)
                (evOp P (lowC true C) (bif usesH op then hovL p n0 m H0 E else []) ((n0 + k) :: p) op) := by
              cases op <;> first | (exact absurd ⟨_, _, _, rfl⟩ hp) | (simp only [evdm, hG] at h; exact h.2)
            rw [hr.op] at h'
            exact evdc_none (fun v e h => ⟨h.1, clrU_sub hU h.2.1, ih (hr.set d rfl) (hUc _ _) h.2.2⟩) (fun v e h => ⟨h.1, clrU_sub hU h.2.1, ih (hr.set d rfl) (hUc _ _) h.2.2⟩) h'
        | some tb =>
          obtain ⟨t, b⟩ := tb
          have both : (G = true → evdR P (bif usesH op then hovL p n0 m H0 E else []) (fun v e => oldIn e (bif usesH op then hovL p n0 m H0 E else []) ∧ clrU m (wrs e ((n0 + k) :: p)) U ∧ evd P p n0 H0 os ms (k + 1) (tset d v T) (eadd k e E) (bif usesH op then U ++ [(k, hovL p n0 m H0 E)] else U) K')
                (evOp P T (bif usesH op then hovL p n0 m H0 E else []) ((n0 + k) :: p) op)) ∧ (G = false → evd P p n0 H0 os ms (k + 1) (tset d (.tup []) T) E U K') := by
            by_cases hp : ∃ x a b, op = .pick x a b
            · obtain ⟨x, a, b', rfl⟩ := hp
              simp only [evdm, hG] at h
              have h := h.2
              split at h
              · rename_i c hc
                refine ⟨fun hGt => ?_, fun hGf => ?_⟩
                · subst hGt
                  show evdR P _ _ (evPick (evo T x) (evo T a) (evo T b'))
                  rw [hr.evo x, hc]
                  refine ⟨trivial, clrU_nil _ _, ih (hr.set d (x := .c true _) ?_) hU h⟩
                  rw [hr.evo a, hr.evo b']
                  exact low_pick (c := c) (x := cgo C a) (y := cgo C b')
                · subst hGf
                  exact ih (hr.set d rfl) hU h
              · exact h.elim
            · have h' : evdc P (some (t, b)) G (bif usesH op then hovL p n0 m H0 E else []) (fun v e => oldIn e (bif usesH op then hovL p n0 m H0 E else []) ∧ clrU m (wrs e ((n0 + k) :: p)) U' ∧ evdm P p n0 H0 .go os ms (k + 1) (cset d (.c G v) C) (eadd k e E) (bif usesH op then U' ++ [(k, hovL p n0 m H0 E)] else U') K)
                (fun v e => oldIn e (bif usesH op then hovL p n0 m H0 E else []) ∧ clrU m (wrs e ((n0 + k) :: p)) U' ∧ evdm P p n0 H0 stop os ms (k + 1) (cset d (.c G v) C) (eadd k e E) (bif usesH op then U' ++ [(k, hovL p n0 m H0 E)] else U') K)
                  (evOp P (lowC G C) (bif usesH op then hovL p n0 m H0 E else []) ((n0 + k) :: p) op) := by
                cases op <;> first | (exact absurd ⟨_, _, _, rfl⟩ hp) | (simp only [evdm, hG] at h; exact h.2)
              refine ⟨fun hGt => ?_, fun hGf => ?_⟩
              · subst hGt
                rw [hr.op] at h'
                exact evdc_run (fun v h => ⟨h.1, clrU_sub hU h.2.1, ih (hr.set d rfl) (hUc _ _) h.2.2⟩) (fun v h => ⟨h.1, clrU_sub hU h.2.1, ih (hr.set d rfl) (hUc _ _) h.2.2⟩) h'
              · subst hGf
                obtain ⟨v, hv | hv⟩ := evdc_skip h'
                · exact ih (hr.set d rfl) (hUs _ _) hv.2.2
                · exact ih (hr.set d rfl) (hUs _ _) hv.2.2
          simp only [evd]
          rcases gOf_some hr hG with ⟨hGt, ht⟩ | ⟨hGf, ht | ht⟩
          · rw [ht]; exact ⟨fun _ => ⟨hsplit, both.1 hGt⟩, fun e => by cases b <;> cases e⟩
          · rw [ht]; exact ⟨fun e => (by cases b <;> cases e), fun _ => both.2 hGf⟩
          · rw [ht]; exact both.2 hGf

/-! ### The rules -/
def low1 : CV → AV
  | .v a => a
  | .c _ _ => .any
def ckeep (l : List Nat) (C : Cm) : Tm := (1000000, low true (cget C 1000000)) :: l.map fun t => (t, low1 (cget C t))
theorem Gh.ckeep {C : Cm} {T : Tm} (hr : Rel C T) (l : List Nat) (H : Hp) (p : Id) (n : Nat) : Gh ⟨T, H, p, n⟩ ⟨ckeep l C, H, p, n⟩ := by
  refine Gh.less (fun t => ?_) ?_ (fun _ _ h => h) (Nat.le_refl _)
  · simp only [Go.Proofs.Ythmimpiegnnmdaa.ckeep, tget]
    split
    · rename_i e; subst e; exact .inl (hr _).symm
    · induction l with
      | nil => exact .inr rfl
      | cons k l ih =>
        simp only [List.map_cons, tget]
        split
        · rename_i e; subst e
          have := hr k
          cases hc : cget C k with
          | v a => rw [hc] at this; exact .inl this.symm
          | c g a => exact .inr rfl
        · exact ih
  · simp only [Go.Proofs.Ythmimpiegnnmdaa.ckeep, tget, if_true]
    exact (hr _).symm
theorem at_m {E : En} {Q : Exit → St → Prop} {id : Nat} {ops : Array Oper} {d : Code} {os : List SOp} {T : Tm} {H : Hp} {p : Id} {n : Nat} (l : List Nat) (hsl : slim E.nt ops = some os)
    (h : ∀ K : Tm → Hp → Nat → Prop, (∀ T' H' n', AT E d Q ⟨T', H', p, n'⟩ → K T' H' n') → evm E.P p .go os (up T) H n (fun C' H' n' => K (ckeep l C') H' n')) : AT E (.seq (.region id ops false) d) Q ⟨T, H, p, n⟩ :=
  at_seq (at_region hsl (evm_evs (K' := fun T' H' n' => AT E d Q ⟨T', H', p, n'⟩) (fun C' T' H' n' hr hk => at_pre (Gh.ckeep hr l H' p n') hk) (Rel.up T) (h (fun T' H' n' => AT E d Q ⟨T', H', p, n'⟩) (fun _ _ _ h => h))))
theorem at_ml {E : En} {Q : Exit → St → Prop} {id : Nat} {ops : Array Oper} {os : List SOp} {T : Tm} {H : Hp} {p : Id} {n : Nat} (l : List Nat) (hsl : slim E.nt ops = some os)
    (h : ∀ K : Tm → Hp → Nat → Prop, (∀ T' H' n', Q .normal ⟨T', H', p, n'⟩ → K T' H' n') → evm E.P p .go os (up T) H n (fun C' H' n' => K (ckeep l C') H' n')) : AT E (.region id ops false) Q ⟨T, H, p, n⟩ :=
  at_post (Q' := fun e s => e = .normal ∧ ∃ C' T' H' n', s = ⟨T', H', p, n'⟩ ∧ Rel C' T' ∧ Q .normal ⟨ckeep l C', H', p, n'⟩) (at_region hsl (evm_evs (fun C' T' H' n' hr hk => ⟨rfl, C', T', H', n', rfl, hr, hk⟩) (Rel.up T) (h (fun T' H' n' => Q .normal ⟨T', H', p, n'⟩) (fun _ _ _ h => h))))
    (fun e s ⟨he, C', T', H', n', hs, hr, hq⟩ => ⟨⟨ckeep l C', H', p, n'⟩, by subst hs; exact Gh.ckeep hr l _ _ _, by subst he; exact hq⟩)
theorem at_dm {E : En} {Q : Exit → St → Prop} {id : Nat} {ops : Array Oper} {d : Code} {os : List SOp} {T : Tm} {H : Hp} {p : Id} {n : Nat} (l : List Nat) (ms : List Nat) (hmix : E.P.follows .mixedOrders = true) (hsl : slim E.nt ops = some os) (hok : drawOk ops os ms = true)
    (h : ∀ K : Tm → Hp → Nat → Prop, (∀ T' H' n', AT E d Q ⟨T', H', p, n'⟩ → K T' H' n') → evdm E.P p n H .go os ms 0 (up T) [] [] (fun C' H' n' => K (ckeep l C') H' n')) : AT E (.seq (.region id ops true) d) Q ⟨T, H, p, n⟩ :=
  at_seq (at_draw ms hmix hsl hok (evdm_evd (K' := fun T' H' n' => AT E d Q ⟨T', H', p, n'⟩) (fun C' T' H' n' hr hk => at_pre (Gh.ckeep hr l H' p n') hk) (Rel.up T) (fun _ h => h) (h (fun T' H' n' => AT E d Q ⟨T', H', p, n'⟩) (fun _ _ _ h => h))))
theorem at_dml {E : En} {Q : Exit → St → Prop} {id : Nat} {ops : Array Oper} {os : List SOp} {T : Tm} {H : Hp} {p : Id} {n : Nat} (l : List Nat) (ms : List Nat) (hmix : E.P.follows .mixedOrders = true) (hsl : slim E.nt ops = some os) (hok : drawOk ops os ms = true)
    (h : ∀ K : Tm → Hp → Nat → Prop, (∀ T' H' n', Q .normal ⟨T', H', p, n'⟩ → K T' H' n') → evdm E.P p n H .go os ms 0 (up T) [] [] (fun C' H' n' => K (ckeep l C') H' n')) : AT E (.region id ops true) Q ⟨T, H, p, n⟩ :=
  at_post (Q' := fun e s => e = .normal ∧ ∃ C' T' H' n', s = ⟨T', H', p, n'⟩ ∧ Rel C' T' ∧ Q .normal ⟨ckeep l C', H', p, n'⟩) (at_draw ms hmix hsl hok (evdm_evd (fun C' T' H' n' hr hk => ⟨rfl, C', T', H', n', rfl, hr, hk⟩) (Rel.up T) (fun _ h => h) (h (fun T' H' n' => Q .normal ⟨T', H', p, n'⟩) (fun _ _ _ h => h))))
    (fun e s ⟨he, C', T', H', n', hs, hr, hq⟩ => ⟨⟨ckeep l C', H', p, n'⟩, by subst hs; exact Gh.ckeep hr l _ _ _, by subst he; exact hq⟩)
/-! ### The evaluation, step by step (names without lambdas: what comes behind is never looked into before its turn) -/
def notPick : Op → Bool
  | .move _ => true
  | .assign _ => true
  | .alloc _ => true
  | .box _ _ => true
  | .build _ _ => true
  | .buildSlice _ _ _ => true
  | .load _ _ => true
  | .store _ _ _ => true
  | .nilCheck _ => true
  | .binOp _ _ _ _ _ => true
  | .unOp _ _ _ => true
  | .convert _ _ _ => true
  | .makeFunc _ _ _ => true
  | .makeMap _ _ => true
  | .slice _ _ _ _ _ => true
  | .fieldAddr _ _ _ => true
  | .field _ _ _ => true
  | .indexAddr _ _ _ => true
  | .index _ _ _ => true
  | .lookup _ _ _ _ => true
  | .mapUpdate _ _ _ _ => true
  | .extract _ _ => true
  | .call _ => true
  | _ => false
section steps
variable {P : Program} {p : Id} {d : Option Nat} {op : Op} {g : Option (Nat × Bool)} {tb : Nat × Bool} {G : Bool} {os : List SOp} {C : Cm} {H : Hp} {n : Nat} {K : Cm → Hp → Nat → Prop} {v : AV} {e : Eff} {q : Prop} {r : Res} {f : FuncId} {i : Id} {args : List AV}
def evcR (P : Program) (p : Id) (d : Option Nat) (g : Option (Nat × Bool)) (G : Bool) (os : List SOp) (C : Cm) (H : Hp) (n : Nat) (K : Cm → Hp → Nat → Prop) (r : Res) : Prop :=
  evc P (n :: p) g G H (fun v H' => evm P p .go os (cset d (cvOf g G v) C) H' (n + 1) K) (fun v H' => evm P p stop os (cset d (cvOf g G v) C) H' (n + 1) K) r
def evmP (P : Program) (p : Id) (d : Option Nat) (g : Option (Nat × Bool)) (G : Bool) (a b : Operand) (os : List SOp) (C : Cm) (H : Hp) (n : Nat) (K : Cm → Hp → Nat → Prop) (x : AV) : Prop := match x with
  | .tv (.bool c) => evm P p .go os (cset d (cvOf g G (bif c then low (G && c) (cgo C a) else low (G && !c) (cgo C b))) C) H (n + 1) K
  | _ => False
def evm1 (P : Program) (p : Id) (d : Option Nat) (op : Op) (g : Option (Nat × Bool)) (os : List SOp) (C : Cm) (H : Hp) (n : Nat) (K : Cm → Hp → Nat → Prop) (o : Option Bool) : Prop := match o with
  | none => False
  | some G => match op with
    | .pick x a b => evmP P p d g G a b os C H n K (low G (cgo C x))
    | op => evcR P p d g G os C H n K (evOp P (lowC G C) H (n :: p) op)
theorem evm_nil : evm P p .go [] C H n K = K C H n := rfl
theorem evm_cons : evm P p .go (⟨d, op, g⟩ :: os) C H n K = evm1 P p d op g os C H n K (gOf C g) := by
  cases hg : gOf C g <;> cases op <;> simp only [evm, evm1, hg] <;> rfl
theorem evm1_pick {x a b : Operand} : evm1 P p d (.pick x a b) g os C H n K (some G) = evmP P p d g G a b os C H n K (low G (cgo C x)) := rfl
theorem evm1_op (h : notPick op = true) : evm1 P p d op g os C H n K (some G) = evcR P p d g G os C H n K (evOp P (lowC G C) H (n :: p) op) := by
  cases op <;> first | rfl | (simp [notPick] at h)
theorem evm1_move {x0} : evm1 P p d (.move x0) g os C H n K (some G) = evcR P p d g G os C H n K (evOp P (lowC G C) H (n :: p) (.move x0)) := rfl
theorem evm1_assign {x0} : evm1 P p d (.assign x0) g os C H n K (some G) = evcR P p d g G os C H n K (evOp P (lowC G C) H (n :: p) (.assign x0)) := rfl
theorem evm1_alloc {x0} : evm1 P p d (.alloc x0) g os C H n K (some G) = evcR P p d g G os C H n K (evOp P (lowC G C) H (n :: p) (.alloc x0)) := rfl
theorem evm1_box {x0 x1} : evm1 P p d (.box x0 x1) g os C H n K (some G) = evcR P p d g G os C H n K (evOp P (lowC G C) H (n :: p) (.box x0 x1)) := rfl
theorem evm1_build {x0 x1} : evm1 P p d (.build x0 x1) g os C H n K (some G) = evcR P p d g G os C H n K (evOp P (lowC G C) H (n :: p) (.build x0 x1)) := rfl
theorem evm1_buildSlice {x0 x1 x2} : evm1 P p d (.buildSlice x0 x1 x2) g os C H n K (some G) = evcR P p d g G os C H n K (evOp P (lowC G C) H (n :: p) (.buildSlice x0 x1 x2)) := rfl
theorem evm1_load {x0 x1} : evm1 P p d (.load x0 x1) g os C H n K (some G) = evcR P p d g G os C H n K (evOp P (lowC G C) H (n :: p) (.load x0 x1)) := rfl
theorem evm1_store {x0 x1 x2} : evm1 P p d (.store x0 x1 x2) g os C H n K (some G) = evcR P p d g G os C H n K (evOp P (lowC G C) H (n :: p) (.store x0 x1 x2)) := rfl
theorem evm1_nilCheck {x0} : evm1 P p d (.nilCheck x0) g os C H n K (some G) = evcR P p d g G os C H n K (evOp P (lowC G C) H (n :: p) (.nilCheck x0)) := rfl
theorem evm1_binOp {x0 x1 x2 x3 x4} : evm1 P p d (.binOp x0 x1 x2 x3 x4) g os C H n K (some G) = evcR P p d g G os C H n K (evOp P (lowC G C) H (n :: p) (.binOp x0 x1 x2 x3 x4)) := rfl
theorem evm1_unOp {x0 x1 x2} : evm1 P p d (.unOp x0 x1 x2) g os C H n K (some G) = evcR P p d g G os C H n K (evOp P (lowC G C) H (n :: p) (.unOp x0 x1 x2)) := rfl
theorem evm1_convert {x0 x1 x2} : evm1 P p d (.convert x0 x1 x2) g os C H n K (some G) = evcR P p d g G os C H n K (evOp P (lowC G C) H (n :: p) (.convert x0 x1 x2)) := rfl
theorem evm1_makeFunc {x0 x1 x2} : evm1 P p d (.makeFunc x0 x1 x2) g os C H n K (some G) = evcR P p d g G os C H n K (evOp P (lowC G C) H (n :: p) (.makeFunc x0 x1 x2)) := rfl
theorem evm1_makeMap {x0 x1} : evm1 P p d (.makeMap x0 x1) g os C H n K (some G) = evcR P p d g G os C H n K (evOp P (lowC G C) H (n :: p) (.makeMap x0 x1)) := rfl
theorem evm1_slice {x0 x1 x2 x3 x4} : evm1 P p d (.slice x0 x1 x2 x3 x4) g os C H n K (some G) = evcR P p d g G os C H n K (evOp P (lowC G C) H (n :: p) (.slice x0 x1 x2 x3 x4)) := rfl
theorem evm1_fieldAddr {x0 x1 x2} : evm1 P p d (.fieldAddr x0 x1 x2) g os C H n K (some G) = evcR P p d g G os C H n K (evOp P (lowC G C) H (n :: p) (.fieldAddr x0 x1 x2)) := rfl
theorem evm1_field {x0 x1 x2} : evm1 P p d (.field x0 x1 x2) g os C H n K (some G) = evcR P p d g G os C H n K (evOp P (lowC G C) H (n :: p) (.field x0 x1 x2)) := rfl
theorem evm1_indexAddr {x0 x1 x2} : evm1 P p d (.indexAddr x0 x1 x2) g os C H n K (some G) = evcR P p d g G os C H n K (evOp P (lowC G C) H (n :: p) (.indexAddr x0 x1 x2)) := rfl
theorem evm1_index {x0 x1 x2} : evm1 P p d (.index x0 x1 x2) g os C H n K (some G) = evcR P p d g G os C H n K (evOp P (lowC G C) H (n :: p) (.index x0 x1 x2)) := rfl
theorem evm1_lookup {x0 x1 x2 x3} : evm1 P p d (.lookup x0 x1 x2 x3) g os C H n K (some G) = evcR P p d g G os C H n K (evOp P (lowC G C) H (n :: p) (.lookup x0 x1 x2 x3)) := rfl
theorem evm1_mapUpdate {x0 x1 x2 x3} : evm1 P p d (.mapUpdate x0 x1 x2 x3) g os C H n K (some G) = evcR P p d g G os C H n K (evOp P (lowC G C) H (n :: p) (.mapUpdate x0 x1 x2 x3)) := rfl
theorem evm1_extract {x0 x1} : evm1 P p d (.extract x0 x1) g os C H n K (some G) = evcR P p d g G os C H n K (evOp P (lowC G C) H (n :: p) (.extract x0 x1)) := rfl
theorem evm1_call {x0} : evm1 P p d (.call x0) g os C H n K (some G) = evcR P p d g G os C H n K (evOp P (lowC G C) H (n :: p) (.call x0)) := rfl
theorem evmP_bool {a b : Operand} {c : Bool} : evmP P p d g G a b os C H n K (.tv (.bool c)) = evm P p .go os (cset d (cvOf g G (bif c then low (G && c) (cgo C a) else low (G && !c) (cgo C b))) C) H (n + 1) K := rfl
theorem evcR_val : evcR P p d none G os C H n K (.val v e) = evm P p .go os (cset d (.v v) C) (e.app H (n :: p)) (n + 1) K := rfl
theorem evcR_valg : evcR P p d (some tb) G os C H n K (.val v .no) = evm P p .go os (cset d (.c G v) C) H (n + 1) K := rfl
theorem evcR_need : evcR P p d g G os C H n K (.need q r) = ((G = true → q) ∧ evcR P p d g G os C H n K r) := rfl
theorem evcR_call : evcR P p d none G os C H n K (.call f args) = callK P f args H (n :: p) (fun v H' => evm P p stop os (cset d (.v v) C) H' (n + 1) K) := rfl
theorem evcR_callg : evcR P p d (some tb) G os C H n K (.call f args) = ∃ v, (G = true → PureCall P f args v) ∧ evm P p stop os (cset d (.c G v) C) H (n + 1) K := rfl
theorem evcR_yld : evcR P p d none G os C H n K (.yld i args) = ∃ post, YldOK P i args H (n :: p) post ∧ ∀ v H', post v H' → evm P p stop os (cset d (.v v) C) H' (n + 1) K := rfl
variable {n0 m k : Nat} {H0 Hh : Hp} {ms : List Nat} {E : List (Nat × Eff)} {U U' : List (Nat × Hp)} {uh : Bool}
/-- The heap that an operation of a drawn order sees. -/
def seen' (p : Id) (n0 m : Nat) (H0 : Hp) (E : List (Nat × Eff)) (b : Bool) : Hp := bif b then hovL p n0 m H0 E else []
def uses' (p : Id) (n0 m : Nat) (H0 : Hp) (E : List (Nat × Eff)) (U : List (Nat × Hp)) (k : Nat) (b : Bool) : List (Nat × Hp) := bif b then U ++ [(k, hovL p n0 m H0 E)] else U
theorem seen_t : seen' p n0 m H0 E true = hovL p n0 m H0 E := rfl
theorem seen_f : seen' p n0 m H0 E false = [] := rfl
theorem uses_t : uses' p n0 m H0 E U k true = U ++ [(k, hovL p n0 m H0 E)] := rfl
theorem uses_f : uses' p n0 m H0 E U k false = U := rfl
def evdR' (P : Program) (p : Id) (n0 : Nat) (H0 : Hp) (d : Option Nat) (g : Option (Nat × Bool)) (G : Bool) (os : List SOp) (ms : List Nat) (m k : Nat) (C : Cm) (E : List (Nat × Eff)) (U U' : List (Nat × Hp)) (Hh : Hp) (K : Cm → Hp → Nat → Prop) (r : Res) : Prop :=
  evdc P g G Hh (fun v e => oldIn e Hh ∧ clrU m (wrs e ((n0 + k) :: p)) U ∧ evdm P p n0 H0 .go os ms (k + 1) (cset d (cvOf g G v) C) (eadd k e E) U' K) (fun v e => oldIn e Hh ∧ clrU m (wrs e ((n0 + k) :: p)) U ∧ evdm P p n0 H0 stop os ms (k + 1) (cset d (cvOf g G v) C) (eadd k e E) U' K) r
def evdP (P : Program) (p : Id) (n0 : Nat) (H0 : Hp) (d : Option Nat) (g : Option (Nat × Bool)) (G : Bool) (a b : Operand) (os : List SOp) (ms : List Nat) (k : Nat) (C : Cm) (E : List (Nat × Eff)) (U : List (Nat × Hp)) (K : Cm → Hp → Nat → Prop) (x : AV) : Prop := match x with
  | .tv (.bool c) => evdm P p n0 H0 .go os ms (k + 1) (cset d (cvOf g G (bif c then low (G && c) (cgo C a) else low (G && !c) (cgo C b))) C) E U K
  | _ => False
def evd1 (P : Program) (p : Id) (n0 : Nat) (H0 : Hp) (d : Option Nat) (op : Op) (g : Option (Nat × Bool)) (os : List SOp) (ms : List Nat) (m k : Nat) (C : Cm) (E : List (Nat × Eff)) (U : List (Nat × Hp)) (K : Cm → Hp → Nat → Prop) (o : Option Bool) : Prop := match o with
  | none => False
  | some G => clrE p n0 m ((n0 + k) :: p) (seen' p n0 m H0 E (usesH op)) E ∧ match op with
    | .pick x a b => evdP P p n0 H0 d g G a b os ms k C E U K (low G (cgo C x))
    | op => evdR' P p n0 H0 d g G os ms m k C E U (uses' p n0 m H0 E U k (usesH op)) (seen' p n0 m H0 E (usesH op)) K (evOp P (lowC G C) (seen' p n0 m H0 E (usesH op)) ((n0 + k) :: p) op)
theorem evdm_nil : evdm P p n0 H0 .go [] ms k C E U K = K C (hovA p n0 H0 E) (n0 + k) := by cases ms <;> rfl
theorem evdm_cons : evdm P p n0 H0 .go (⟨d, op, g⟩ :: os) (m :: ms) k C E U K = evd1 P p n0 H0 d op g os ms m k C E U K (gOf C g) := by
  cases hg : gOf C g <;> cases op <;> simp only [evdm, evd1, hg] <;> rfl
theorem evd1_pick {x a b : Operand} : evd1 P p n0 H0 d (.pick x a b) g os ms m k C E U K (some G) = (clrE p n0 m ((n0 + k) :: p) [] E ∧ evdP P p n0 H0 d g G a b os ms k C E U K (low G (cgo C x))) := rfl
theorem evd1_op (h : notPick op = true) : evd1 P p n0 H0 d op g os ms m k C E U K (some G) = (clrE p n0 m ((n0 + k) :: p) (seen' p n0 m H0 E (usesH op)) E ∧
    evdR' P p n0 H0 d g G os ms m k C E U (uses' p n0 m H0 E U k (usesH op)) (seen' p n0 m H0 E (usesH op)) K (evOp P (lowC G C) (seen' p n0 m H0 E (usesH op)) ((n0 + k) :: p) op)) := by
  cases op <;> first | rfl | (simp [notPick] at h)
theorem evd1_move {x0} : evd1 P p n0 H0 d (.move x0) g os ms m k C E U K (some G) = (clrE p n0 m ((n0 + k) :: p) (seen' p n0 m H0 E (usesH (.move x0))) E ∧ evdR' P p n0 H0 d g G os ms m k C E U (uses' p n0 m H0 E U k (usesH (.move x0))) (seen' p n0 m H0 E (usesH (.move x0))) K (evOp P (lowC G C) (seen' p n0 m H0 E (usesH (.move x0))) ((n0 + k) :: p) (.move x0))) := rfl
theorem evd1_assign {x0} : evd1 P p n0 H0 d (.assign x0) g os ms m k C E U K (some G) = (clrE p n0 m ((n0 + k) :: p) (seen' p n0 m H0 E (usesH (.assign x0))) E ∧ evdR' P p n0 H0 d g G os ms m k C E U (uses' p n0 m H0 E U k (usesH (.assign x0))) (seen' p n0 m H0 E (usesH (.assign x0))) K (evOp P (lowC G C) (seen' p n0 m H0 E (usesH (.assign x0))) ((n0 + k) :: p) (.assign x0))) := rfl
theorem evd1_alloc {x0} : evd1 P p n0 H0 d (.alloc x0) g os ms m k C E U K (some G) = (clrE p n0 m ((n0 + k) :: p) (seen' p n0 m H0 E (usesH (.alloc x0))) E ∧ evdR' P p n0 H0 d g G os ms m k C E U (uses' p n0 m H0 E U k (usesH (.alloc x0))) (seen' p n0 m H0 E (usesH (.alloc x0))) K (evOp P (lowC G C) (seen' p n0 m H0 E (usesH (.alloc x0))) ((n0 + k) :: p) (.alloc x0))) := rfl
theorem evd1_box {x0 x1} : evd1 P p n0 H0 d (.box x0 x1) g os ms m k C E U K (some G) = (clrE p n0 m ((n0 + k) :: p) (seen' p n0 m H0 E (usesH (.box x0 x1))) E ∧ evdR' P p n0 H0 d g G os ms m k C E U (uses' p n0 m H0 E U k (usesH (.box x0 x1))) (seen' p n0 m H0 E (usesH (.box x0 x1))) K (evOp P (lowC G C) (seen' p n0 m H0 E (usesH (.box x0 x1))) ((n0 + k) :: p) (.box x0 x1))) := rfl
theorem evd1_build {x0 x1} : evd1 P p n0 H0 d (.build x0 x1) g os ms m k C E U K (some G) = (clrE p n0 m ((n0 + k) :: p) (seen' p n0 m H0 E (usesH (.build x0 x1))) E ∧ evdR' P p n0 H0 d g G os ms m k C E U (uses' p n0 m H0 E U k (usesH (.build x0 x1))) (seen' p n0 m H0 E (usesH (.build x0 x1))) K (evOp P (lowC G C) (seen' p n0 m H0 E (usesH (.build x0 x1))) ((n0 + k) :: p) (.build x0 x1))) := rfl
theorem evd1_buildSlice {x0 x1 x2} : evd1 P p n0 H0 d (.buildSlice x0 x1 x2) g os ms m k C E U K (some G) = (clrE p n0 m ((n0 + k) :: p) (seen' p n0 m H0 E (usesH (.buildSlice x0 x1 x2))) E ∧ evdR' P p n0 H0 d g G os ms m k C E U (uses' p n0 m H0 E U k (usesH (.buildSlice x0 x1 x2))) (seen' p n0 m H0 E (usesH (.buildSlice x0 x1 x2))) K (evOp P (lowC G C) (seen' p n0 m H0 E (usesH (.buildSlice x0 x1 x2))) ((n0 + k) :: p) (.buildSlice x0 x1 x2))) := rfl
theorem evd1_load {x0 x1} : evd1 P p n0 H0 d (.load x0 x1) g os ms m k C E U K (some G) = (clrE p n0 m ((n0 + k) :: p) (seen' p n0 m H0 E (usesH (.load x0 x1))) E ∧ evdR' P p n0 H0 d g G os ms m k C E U (uses' p n0 m H0 E U k (usesH (.load x0 x1))) (seen' p n0 m H0 E (usesH (.load x0 x1))) K (evOp P (lowC G C) (seen' p n0 m H0 E (usesH (.load x0 x1))) ((n0 + k) :: p) (.load x0 x1))) := rfl
theorem evd1_store {x0 x1 x2} : evd1 P p n0 H0 d (.store x0 x1 x2) g os ms m k C E U K (some G) = (clrE p n0 m ((n0 + k) :: p) (seen' p n0 m H0 E (usesH (.store x0 x1 x2))) E ∧ evdR' P p n0 H0 d g G os ms m k C E U (uses' p n0 m H0 E U k (usesH (.store x0 x1 x2))) (seen' p n0 m H0 E (usesH (.store x0 x1 x2))) K (evOp P (lowC G C) (seen' p n0 m H0 E (usesH (.store x0 x1 x2))) ((n0 + k) :: p) (.store x0 x1 x2))) := rfl
theorem evd1_nilCheck {x0} : evd1 P p n0 H0 d (.nilCheck x0) g os ms m k C E U K (some G) = (clrE p n0 m ((n0 + k) :: p) (seen' p n0 m H0 E (usesH (.nilCheck x0))) E ∧ evdR' P p n0 H0 d g G os ms m k C E U (uses' p n0 m H0 E U k (usesH (.nilCheck x0))) (seen' p n0 m H0 E (usesH (.nilCheck x0))) K (evOp P (lowC G C) (seen' p n0 m H0 E (usesH (.nilCheck x0))) ((n0 + k) :: p) (.nilCheck x0))) := rfl
theorem evd1_binOp {x0 x1 x2 x3 x4} : evd1 P p n0 H0 d (.binOp x0 x1 x2 x3 x4) g os ms m k C E U K (some G) = (clrE p n0 m ((n0 + k) :: p) (seen' p n0 m H0 E (usesH (.binOp x0 x1 x2 x3 x4))) E ∧ evdR' P p n0 H0 d g G os ms m k C E U (uses' p n0 m H0 E U k (usesH (.binOp x0 x1 x2 x3 x4))) (seen' p n0 m H0 E (usesH (.binOp x0 x1 x2 x3 x4))) K (evOp P (lowC G C) (seen' p n0 m H0 E (usesH (.binOp x0 x1 x2 x3 x4))) ((n0 + k) :: p) (.binOp x0 x1 x2 x3 x4))) := rfl
theorem evd1_unOp {x0 x1 x2} : evd1 P p n0 H0 d (.unOp x0 x1 x2) g os ms m k C E U K (some G) = (clrE p n0 m ((n0 + k) :: p) (seen' p n0 m H0 E (usesH (.unOp x0 x1 x2))) E ∧ evdR' P p n0 H0 d g G os ms m k C E U (uses' p n0 m H0 E U k (usesH (.unOp x0 x1 x2))) (seen' p n0 m H0 E (usesH (.unOp x0 x1 x2))) K (evOp P (lowC G C) (seen' p n0 m H0 E (usesH (.unOp x0 x1 x2))) ((n0 + k) :: p) (.unOp x0 x1 x2))) := rfl
theorem evd1_convert {x0 x1 x2} : evd1 P p n0 H0 d (.convert x0 x1 x2) g os ms m k C E U K (some G) = (clrE p n0 m ((n0 + k) :: p) (seen' p n0 m H0 E (usesH (.convert x0 x1 x2))) E ∧ evdR' P p n0 H0 d g G os ms m k C E U (uses' p n0 m H0 E U k (usesH (.convert x0 x1 x2))) (seen' p n0 m H0 E (usesH (.convert x0 x1 x2))) K (evOp P (lowC G C) (seen' p n0 m H0 E (usesH (.convert x0 x1 x2))) ((n0 + k) :: p) (.convert x0 x1 x2))) := rfl
theorem evd1_makeFunc {x0 x1 x2} : evd1 P p n0 H0 d (.makeFunc x0 x1 x2) g os ms m k C E U K (some G) = (clrE p n0 m ((n0 + k) :: p) (seen' p n0 m H0 E (usesH (.makeFunc x0 x1 x2))) E ∧ evdR' P p n0 H0 d g G os ms m k C E U (uses' p n0 m H0 E U k (usesH (.makeFunc x0 x1 x2))) (seen' p n0 m H0 E (usesH (.makeFunc x0 x1 x2))) K (evOp P (lowC G C) (seen' p n0 m H0 E (usesH (.makeFunc x0 x1 x2))) ((n0 + k) :: p) (.makeFunc x0 x1 x2))) := rfl
theorem evd1_makeMap {x0 x1} : evd1 P p n0 H0 d (.makeMap x0 x1) g os ms m k C E U K (some G) = (clrE p n0 m ((n0 + k) :: p) (seen' p n0 m H0 E (usesH (.makeMap x0 x1))) E ∧ evdR' P p n0 H0 d g G os ms m k C E U (uses' p n0 m H0 E U k (usesH (.makeMap x0 x1))) (seen' p n0 m H0 E (usesH (.makeMap x0 x1))) K (evOp P (lowC G C) (seen' p n0 m H0 E (usesH (.makeMap x0 x1))) ((n0 + k) :: p) (.makeMap x0 x1))) := rfl
theorem evd1_slice {x0 x1 x2 x3 x4} : evd1 P p n0 H0 d (.slice x0 x1 x2 x3 x4) g os ms m k C E U K (some G) = (clrE p n0 m ((n0 + k) :: p) (seen' p n0 m H0 E (usesH (.slice x0 x1 x2 x3 x4))) E ∧ evdR' P p n0 H0 d g G os ms m k C E U (uses' p n0 m H0 E U k (usesH (.slice x0 x1 x2 x3 x4))) (seen' p n0 m H0 E (usesH (.slice x0 x1 x2 x3 x4))) K (evOp P (lowC G C) (seen' p n0 m H0 E (usesH (.slice x0 x1 x2 x3 x4))) ((n0 + k) :: p) (.slice x0 x1 x2 x3 x4))) := rfl
theorem evd1_fieldAddr {x0 x1 x2} : evd1 P p n0 H0 d (.fieldAddr x0 x1 x2) g os ms m k C E U K (some G) = (clrE p n0 m ((n0 + k) :: p) (seen' p n0 m H0 E (usesH (.fieldAddr x0 x1 x2))) E ∧ evdR' P p n0 H0 d g G os ms m k C E U (uses' p n0 m H0 E U k (usesH (.fieldAddr x0 x1 x2))) (seen' p n0 m H0 E (usesH (.fieldAddr x0 x1 x2))) K (evOp P (lowC G C) (seen' p n0 m H0 E (usesH (.fieldAddr x0 x1 x2))) ((n0 + k) :: p) (.fieldAddr x0 x1 x2))) := rfl
theorem evd1_field {x0 x1 x2} : evd1 P p n0 H0 d (.field x0 x1 x2) g os ms m k C E U K (some G) = (clrE p n0 m ((n0 + k) :: p) (seen' p n0 m H0 E (usesH (.field x0 x1 x2))) E ∧ evdR' P p n0 H0 d g G os ms m k C E U (uses' p n0 m H0 E U k (usesH (.field x0 x1 x2))) (seen' p n0 m H0 E (usesH (.field x0 x1 x2))) K (evOp P (lowC G C) (seen' p n0 m H0 E (usesH (.field x0 x1 x2))) ((n0 + k) :: p) (.field x0 x1 x2))) := rfl
theorem evd1_indexAddr {x0 x1 x2} : evd1 P p n0 H0 d (.indexAddr x0 x1 x2) g os ms m k C E U K (some G) = (clrE p n0 m ((n0 + k) :: p) (seen' p n0 m H0 E (usesH (.indexAddr x0 x1 x2))) E ∧ evdR' P p n0 H0 d g G os ms m k C E U (uses' p n0 m H0 E U k (usesH (.indexAddr x0 x1 x2))) (seen' p n0 m H0 E (usesH (.indexAddr x0 x1 x2))) K (evOp P (lowC G C) (seen' p n0 m H0 E (usesH (.indexAddr x0 x1 x2))) ((n0 + k) :: p) (.indexAddr x0 x1 x2))) := rfl
theorem evd1_index {x0 x1 x2} : evd1 P p n0 H0 d (.index x0 x1 x2) g os ms m k C E U K (some G) = (clrE p n0 m ((n0 + k) :: p) (seen' p n0 m H0 E (usesH (.index x0 x1 x2))) E ∧ evdR' P p n0 H0 d g G os ms m k C E U (uses' p n0 m H0 E U k (usesH (.index x0 x1 x2))) (seen' p n0 m H0 E (usesH (.index x0 x1 x2))) K (evOp P (lowC G C) (seen' p n0 m H0 E (usesH (.index x0 x1 x2))) ((n0 + k) :: p) (.index x0 x1 x2))) := rfl
theorem evd1_lookup {x0 x1 x2 x3} : evd1 P p n0 H0 d (.lookup x0 x1 x2 x3) g os ms m k C E U K (some G) = (clrE p n0 m ((n0 + k) :: p) (seen' p n0 m H0 E (usesH (.lookup x0 x1 x2 x3))) E ∧ evdR' P p n0 H0 d g G os ms m k C E U (uses' p n0 m H0 E U k (usesH (.lookup x0 x1 x2 x3))) (seen' p n0 m H0 E (usesH (.lookup x0 x1 x2 x3))) K (evOp P (lowC G C) (seen' p n0 m H0 E (usesH (.lookup x0 x1 x2 x3))) ((n0 + k) :: p) (.lookup x0 x1 x2 x3))) := rfl
theorem evd1_mapUpdate {x0 x1 x2 x3} : evd1 P p n0 H0 d (.mapUpdate x0 x1 x2 x3) g os ms m k C E U K (some G) = (clrE p n0 m ((n0 + k) :: p) (seen' p n0 m H0 E (usesH (.mapUpdate x0 x1 x2 x3))) E ∧ evdR' P p n0 H0 d g G os ms m k C E U (uses' p n0 m H0 E U k (usesH (.mapUpdate x0 x1 x2 x3))) (seen' p n0 m H0 E (usesH (.mapUpdate x0 x1 x2 x3))) K (evOp P (lowC G C) (seen' p n0 m H0 E (usesH (.mapUpdate x0 x1 x2 x3))) ((n0 + k) :: p) (.mapUpdate x0 x1 x2 x3))) := rfl
theorem evd1_extract {x0 x1} : evd1 P p n0 H0 d (.extract x0 x1) g os ms m k C E U K (some G) = (clrE p n0 m ((n0 + k) :: p) (seen' p n0 m H0 E (usesH (.extract x0 x1))) E ∧ evdR' P p n0 H0 d g G os ms m k C E U (uses' p n0 m H0 E U k (usesH (.extract x0 x1))) (seen' p n0 m H0 E (usesH (.extract x0 x1))) K (evOp P (lowC G C) (seen' p n0 m H0 E (usesH (.extract x0 x1))) ((n0 + k) :: p) (.extract x0 x1))) := rfl
theorem evd1_call {x0} : evd1 P p n0 H0 d (.call x0) g os ms m k C E U K (some G) = (clrE p n0 m ((n0 + k) :: p) (seen' p n0 m H0 E (usesH (.call x0))) E ∧ evdR' P p n0 H0 d g G os ms m k C E U (uses' p n0 m H0 E U k (usesH (.call x0))) (seen' p n0 m H0 E (usesH (.call x0))) K (evOp P (lowC G C) (seen' p n0 m H0 E (usesH (.call x0))) ((n0 + k) :: p) (.call x0))) := rfl
theorem evdP_bool {a b : Operand} {c : Bool} : evdP P p n0 H0 d g G a b os ms k C E U K (.tv (.bool c)) = evdm P p n0 H0 .go os ms (k + 1) (cset d (cvOf g G (bif c then low (G && c) (cgo C a) else low (G && !c) (cgo C b))) C) E U K := rfl
theorem evdR_val : evdR' P p n0 H0 d none G os ms m k C E U U' Hh K (.val v e) = (oldIn e Hh ∧ clrU m (wrs e ((n0 + k) :: p)) U ∧ evdm P p n0 H0 .go os ms (k + 1) (cset d (.v v) C) (eadd k e E) U' K) := rfl
theorem evdR_valg : evdR' P p n0 H0 d (some tb) G os ms m k C E U U' Hh K (.val v .no) = (clrU m [] U ∧ evdm P p n0 H0 .go os ms (k + 1) (cset d (.c G v) C) E U' K) := by
  show (True ∧ _) = _
  simp only [true_and]; rfl
theorem evdR_need : evdR' P p n0 H0 d g G os ms m k C E U U' Hh K (.need q r) = ((G = true → q) ∧ evdR' P p n0 H0 d g G os ms m k C E U U' Hh K r) := rfl
theorem evdR_callg : evdR' P p n0 H0 d (some tb) G os ms m k C E U U' Hh K (.call f args) = ∃ v, (G = true → PureCall P f args v) ∧ clrU m [] U ∧ evdm P p n0 H0 stop os ms (k + 1) (cset d (.c G v) C) E U' K := by
  show (∃ v, _ ∧ True ∧ _) = _
  simp only [true_and]; rfl
/-- A pure call in a drawn order. -/
theorem evdR_call (h : PureCall P f args v) (hk : evdm P p n0 H0 stop os ms (k + 1) (cset d (.v v) C) E U' K) : evdR' P p n0 H0 d none G os ms m k C E U U' Hh K (.call f args) :=
  .inl ⟨v, h, trivial, clrU_nil _ _, hk⟩
/-- .. with a slice of one's own, read as a tree. -/
theorem evdR_frz {args' : List AV} {o : AO} (hf : frz1 Hh args = some (args', i, o)) (h : PureCall P f args' v) (hk : oldIn (.upd i o) Hh ∧ clrU m [i] U ∧ evdm P p n0 H0 stop os ms (k + 1) (cset d (.v v) C) (E ++ [(k, .upd i o)]) U' K) : evdR' P p n0 H0 d none G os ms m k C E U U' Hh K (.call f args) :=
  .inr ⟨args', i, o, v, hf, h, hk⟩
end steps
theorem cond_or (a b : Bool) : (bif a then true else b) = (a || b) := by cases a <;> rfl
theorem cond_and (a b : Bool) : (bif a then b else false) = (a && b) := by cases a <;> rfl
theorem cond_imp (a b : Bool) : (bif a then b else true) = (!a || b) := by cases a <;> rfl
theorem cond_nand (a b : Bool) : (bif a then false else b) = (!a && b) := by cases a <;> rfl
theorem imp_l (a b : Bool) : (!(a && b) || a) = true := by cases a <;> cases b <;> rfl
theorem imp_r (a b : Bool) : (!(a && b) || b) = true := by cases a <;> cases b <;> rfl
theorem imp_s (a : Bool) : (!a || a) = true := by cases a <;> rfl
end Go.Proofs.Ythmimpiegnnmdaa
