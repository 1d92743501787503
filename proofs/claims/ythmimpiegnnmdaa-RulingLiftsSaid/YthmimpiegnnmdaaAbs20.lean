/- Evaluation as a function that the kernel computes: what it asks is told as a list. -/
import Derived.Test.YthmimpiegnnmdaaAbs17
import Derived.KernelRfl
namespace Go.Proofs.Ythmimpiegnnmdaa
open Go.RowKit
set_option linter.unusedSimpArgs false
set_option linter.unusedVariables false

/-- A temporary of a region: always told, or told where the literals hold (a guarded operation's). -/
inductive GV where
  | v (a : AV)
  | c (π : List (Nat × Bool)) (a : AV)
abbrev Gm := List (Nat × GV)
def gvGet : Gm → Nat → GV
  | [], _ => .v .any
  | (t, x) :: r, n => if t = n then x else gvGet r n
def gvVal : GV → AV
  | .v a => a
  | .c _ a => a
def bval (C : Gm) (t : Nat) : Bool := match gvVal (gvGet C t) with
  | .tv (.bool c) => c
  | _ => false
def sub (π' π : List (Nat × Bool)) : Bool := π'.all fun l => π.any fun m => l.1 == m.1 && l.2 == m.2
def rdable (C : Gm) (π : List (Nat × Bool)) (t : Nat) : Bool := match gvGet C t with
  | .v _ => true
  | .c π' _ => sub π' π
def lowB (π : List (Nat × Bool)) (C : Gm) : Tm := C.map fun x => (x.1, match x.2 with | .v a => a | .c π' a => bif sub π' π then a else .any)
def upB (T : Tm) : Gm := T.map fun x => (x.1, .v x.2)
def gsetB (d : Option Nat) (x : GV) (C : Gm) : Gm := match d with
  | some d => (d, x) :: C
  | none => C
/-- A guard: its literals; the temporaries that literals name must not be told anew. -/
def guardB (C : Gm) : Option (Nat × Bool) → Option (List (Nat × Bool))
  | none => some []
  | some (t, b) => match gvGet C t with
    | .v (.tv (.bool _)) => some [(t, b)]
    | .c π (.tv (.bool _)) => some ((t, b) :: π)
    | _ => none
def guardU (g : Option (Nat × Bool)) (u : List Nat) : List Nat := match g with
  | none => u
  | some (t, _) => t :: u
def gwrap (g : Option (Nat × Bool)) (π : List (Nat × Bool)) (v : AV) : GV := match g with
  | none => .v v
  | some _ => .c π v
def gq (C : Gm) : List (Nat × Bool) → Prop → Prop
  | [], q => q
  | (t, b) :: π, q => (bval C t = b) → gq C π q
def conj : List Prop → Prop
  | [] => True
  | p :: r => p ∧ conj r
def pickV (c : Bool) (x y : AV) : AV := match x, y with
  | .tv (.bool a), .tv (.bool b) => .tv (.bool (bif c then a else b))
  | .tv (.int k a), .tv (.int k' b) => if k = k' then .tv (.int k (bif c then a else b)) else bif c then x else y
  | .tv (.str a), .tv (.str b) => .tv (.str (bif c then a else b))
  | x, y => bif c then x else y
inductive Ora where
  | std
  | eq (v : AV)
  | eff (v : AV) (o : AO)
  | ret (v : AV)
  | retH (v : AV) (H : Hp)
  | retY (v : AV) (H : Hp)
  | frz (args : List AV) (H : Hp) (v : AV)
  | frz1 (args : List AV) (i : Id) (o : AO) (v : AV)
  | res (r : Res) (v : AV) (e : Eff)
def effObj : Eff → AO
  | .no => .gone
  | .new o => o
  | .upd _ o => o
  | .repl _ o => o
def effO : Eff → AO → Eff
  | .no, _ => .no
  | .new _, o => .new o
  | .upd i _, o => .upd i o
  | .repl i _, o => .repl i o
inductive XE where
  | e (e : Eff)
  | h (H : Hp)
  | f (i : Id) (o : AO)
def stepB (P : Program) (H : Hp) (id : Id) (o : Ora) : Res → Option (List Prop × AV × XE)
  | .need q r => match stepB P H id o r with
    | some (ns, v, x) => some (q :: ns, v, x)
    | none => none
  | .val v e => match o with
    | .std => some ([], v, .e e)
    | .eq v' => some ([v = v'], v', .e e)
    | .eff v' ob => some ([v = v', effObj e = ob], v', .e (effO e ob))
    | _ => none
  | .call f args => match o with
    | .ret v => some ([PureCall P f args v], v, .e .no)
    | .retH v H' => some ([CallOK P f args H id fun v1 H1 => v1 = v ∧ H1 = H'], v, .h H')
    | .frz a' H' v => some ([frzs args H = some (a', H'), PureCall P f a' v], v, .h H')
    | .frz1 a' i ob v => some ([Go.Proofs.Ythmimpiegnnmdaa.frz1 H args = some (a', i, ob), PureCall P f a' v], v, .f i ob)
    | _ => none
  | .yld i args => match o with
    | .retY v H' => some ([YldOK P i args H id fun v1 H1 => v1 = v ∧ H1 = H'], v, .h H')
    | _ => none
  | .fail => none
def restB (P : Program) (C : Gm) (H : Hp) (id : Id) (op : Op) (g : Option (Nat × Bool)) (u : List Nat) (o : Ora) (π : List (Nat × Bool)) : Option (List Nat × List Prop × GV × XE) := match (opTmps op).all (rdable C π) with
      | false => none
      | true => match o with
        | .res r v e => match g with
          | none => some (u, [evOp P (lowB π C) H id op = r, (∃ q, r = .need q (.val v e) ∧ q) ∨ r = .val v e], .v v, .e e)
          | some _ => none
        | o => match stepB P H id o (evOp P (lowB π C) H id op) with
          | some (ns, v, x) => match g with
            | none => some (u, ns, .v v, x)
            | some _ => match x with
              | .e .no => some (guardU g u, ns.map (gq C π), .c π v, .e .no)
              | _ => none
          | none => none
/-- One operation: the literals' temporaries, what it asks, its value, its effect. -/
def opB (P : Program) (C : Gm) (H : Hp) (id : Id) (op : Op) (g : Option (Nat × Bool)) (u : List Nat) (o : Ora) : Option (List Nat × List Prop × GV × XE) := match guardB C g with
  | none => none
  | some π => match op with
    | .pick (.tmp x) a b => match rdable C π x && (opTmps (.move a)).all (rdable C ((x, true) :: π)) && (opTmps (.move b)).all (rdable C ((x, false) :: π)) with
      | false => none
      | true => match gvVal (gvGet C x) with
        | .tv (.bool c) => some (x :: guardU g u, [], gwrap g π (pickV c (evo (lowB ((x, true) :: π) C) a) (evo (lowB ((x, false) :: π) C) b)), .e .no)
        | _ => none
    | .pick _ _ _ => none
    | op => restB P C H id op g u o π
def XE.app (x : XE) (H : Hp) (id : Id) : Option Hp := match x with
  | XE.e y => some (Eff.app y H id)
  | XE.h H' => some H'
  | .f _ _ => none
def dstOk (d : Option Nat) (u : List Nat) : Bool := match d with
  | none => true
  | some d => !u.contains d
def evB (P : Program) (p : Id) : List SOp → List Ora → List Nat → Gm → Hp → Nat → Option (List Prop × Gm × Hp × Nat)
  | [], _, _, C, H, n => some ([], C, H, n)
  | ⟨d, op, g⟩ :: os, ors, u, C, H, n => match opB P C H (n :: p) op g u (ors.headD .std) with
    | none => none
    | some (u', ns, x, e) => match dstOk d u' with
      | false => none
      | true => match e.app H (n :: p) with
        | none => none
        | some H1 => match evB P p os ors.tail u' (gsetB d x C) H1 (n + 1) with
          | some (ns2, C', H', n') => some (ns ++ ns2, C', H', n')
          | none => none
def gkeep (l : List Nat) (C : Gm) : Tm := (1000000, gvVal (gvGet C 1000000)) :: l.map fun t => (t, match gvGet C t with | .v a => a | .c _ _ => .any)
def regB (nt : Nat) (P : Program) (p : Id) (ops : Array Oper) (ors : List Ora) (l : List Nat) (T : Tm) (H : Hp) (n : Nat) : Option (List Prop × Tm × Hp × Nat) := match slim nt ops with
  | none => none
  | some os => match evB P p os ors [] (upB T) H n with
    | some (ns, C, H', n') => some (ns, gkeep l C, H', n')
    | none => none

/-! ### It is sound -/
def holdB (C : Gm) (π : List (Nat × Bool)) : Prop := ∀ l ∈ π, bval C l.1 = l.2
structure RelB (u : List Nat) (C : Gm) (T : Tm) : Prop where
  v : ∀ t a, gvGet C t = .v a → tget T t = a
  c : ∀ t π a, gvGet C t = .c π a → (∀ l ∈ π, l.1 ∈ u) ∧ (holdB C π → tget T t = a) ∧ (¬ holdB C π → tget T t = .tup [])
theorem gvGet_upB (T : Tm) (t : Nat) : gvGet (upB T) t = .v (tget T t) := by
  induction T with
  | nil => rfl
  | cons x r ih =>
    simp only [upB, List.map_cons, gvGet, tget]
    split
    · rfl
    · exact ih
theorem RelB.up (T : Tm) : RelB [] (upB T) T := ⟨fun t a h => by rw [gvGet_upB] at h; cases h; rfl, fun t π a h => by rw [gvGet_upB] at h; cases h⟩
theorem tget_lowB (π : List (Nat × Bool)) (C : Gm) (t : Nat) : tget (lowB π C) t = match gvGet C t with | .v a => a | .c π' a => bif sub π' π then a else .any := by
  induction C with
  | nil => rfl
  | cons x r ih =>
    simp only [lowB, List.map_cons, gvGet, tget]
    split
    · rfl
    · exact ih
theorem sub_hold {C : Gm} {π' π : List (Nat × Bool)} (h : sub π' π = true) (hh : holdB C π) : holdB C π' := by
  intro l hl
  simp only [sub, List.all_eq_true, List.any_eq_true, Bool.and_eq_true, beq_iff_eq] at h
  obtain ⟨m, hm, h1, h2⟩ := h l hl
  rw [h1, h2]; exact hh m hm
theorem rdable_eq {u : List Nat} {C : Gm} {T : Tm} {π : List (Nat × Bool)} {t : Nat} (hr : RelB u C T) (hh : holdB C π) (h : rdable C π t = true) : tget (lowB π C) t = tget T t := by
  rw [tget_lowB]
  unfold rdable at h
  cases e : gvGet C t with
  | v a => exact (hr.v t a e).symm
  | c π' a => rw [e] at h; simp only at h; simp only [h, cond_true]; exact ((hr.c t π' a e).2.1 (sub_hold h hh)).symm
theorem rdable_val {u : List Nat} {C : Gm} {T : Tm} {π : List (Nat × Bool)} {t : Nat} (hr : RelB u C T) (hh : holdB C π) (h : rdable C π t = true) : tget T t = gvVal (gvGet C t) := by
  unfold rdable at h
  split at h
  · rename_i a e; rw [e]; exact hr.v t a e
  · rename_i π' a e; rw [e]; exact (hr.c t π' a e).2.1 (sub_hold h hh)
theorem gvGet_set {d : Option Nat} {x : GV} {C : Gm} {t : Nat} : gvGet (gsetB d x C) t = if d = some t then x else gvGet C t := by
  cases d with
  | none => rfl
  | some d =>
    simp only [gsetB, gvGet, Option.some.injEq]
theorem tget_set {d : Option Nat} {x : AV} {T : Tm} {t : Nat} : tget (tset d x T) t = if d = some t then x else tget T t := by
  cases d with
  | none => rfl
  | some d => simp only [tset, tget, Option.some.injEq]
theorem bval_set {d : Option Nat} {x : GV} {C : Gm} {u : List Nat} (h : dstOk d u = true) {t : Nat} (ht : t ∈ u) : bval (gsetB d x C) t = bval C t := by
  unfold bval
  rw [gvGet_set, if_neg]
  intro e; subst e; simp [dstOk, ht] at h
theorem holdB_set {d : Option Nat} {x : GV} {C : Gm} {u : List Nat} (h : dstOk d u = true) {π : List (Nat × Bool)} (hπ : ∀ l ∈ π, l.1 ∈ u) : holdB (gsetB d x C) π ↔ holdB C π := by
  constructor
  · intro hh l hl; rw [← bval_set h (hπ l hl)]; exact hh l hl
  · intro hh l hl; rw [bval_set h (hπ l hl)]; exact hh l hl
theorem RelB.setv {u u' : List Nat} {C : Gm} {T : Tm} (hr : RelB u C T) (hu : ∀ t ∈ u, t ∈ u') {d : Option Nat} (hd : dstOk d u' = true) (v : AV) : RelB u' (gsetB d (.v v) C) (tset d v T) := by
  refine ⟨fun t a h => ?_, fun t π a h => ?_⟩
  · rw [gvGet_set] at h; rw [tget_set]
    split at h
    · rename_i e; rw [if_pos e]; cases h; rfl
    · rename_i e; rw [if_neg e]; exact hr.v t a h
  · rw [gvGet_set] at h; rw [tget_set]
    split at h
    · cases h
    · rename_i e; rw [if_neg e]
      obtain ⟨h1, h2, h3⟩ := hr.c t π a h
      have h1' : ∀ l ∈ π, l.1 ∈ u' := fun l hl => hu _ (h1 l hl)
      exact ⟨h1', fun hh => h2 ((holdB_set hd h1').1 hh), fun hh => h3 (fun x => hh ((holdB_set hd h1').2 x))⟩
theorem RelB.setc {u u' : List Nat} {C : Gm} {T : Tm} (hr : RelB u C T) (hu : ∀ t ∈ u, t ∈ u') {d : Option Nat} (hd : dstOk d u' = true) {π : List (Nat × Bool)} (hπ : ∀ l ∈ π, l.1 ∈ u') (v w : AV)
    (hv : (holdB C π → w = v) ∧ (¬ holdB C π → w = .tup [])) : RelB u' (gsetB d (.c π v) C) (tset d w T) := by
  refine ⟨fun t a h => ?_, fun t π' a h => ?_⟩
  · rw [gvGet_set] at h; rw [tget_set]
    split at h
    · cases h
    · rename_i e; rw [if_neg e]; exact hr.v t a h
  · rw [gvGet_set] at h; rw [tget_set]
    split at h
    · rename_i e; rw [if_pos e]; cases h
      exact ⟨hπ, fun hh => hv.1 ((holdB_set hd hπ).1 hh), fun hh => hv.2 (fun x => hh ((holdB_set hd hπ).2 x))⟩
    · rename_i e; rw [if_neg e]
      obtain ⟨h1, h2, h3⟩ := hr.c t π' a h
      have h1' : ∀ l ∈ π', l.1 ∈ u' := fun l hl => hu _ (h1 l hl)
      exact ⟨h1', fun hh => h2 ((holdB_set hd h1').1 hh), fun hh => h3 (fun x => hh ((holdB_set hd h1').2 x))⟩
theorem conj_app {a b : List Prop} : conj (a ++ b) ↔ conj a ∧ conj b := by
  induction a with
  | nil => simp [conj]
  | cons x r ih => simp only [List.cons_append, conj, ih, and_assoc]
theorem gq_hold {C : Gm} {π : List (Nat × Bool)} {q : Prop} (h : gq C π q) (hh : holdB C π) : q := by
  induction π with
  | nil => exact h
  | cons l r ih => exact ih (h (hh l (by simp))) (fun m hm => hh m (by simp [hm]))
theorem conj_gq {C : Gm} {π : List (Nat × Bool)} {ns : List Prop} (h : conj (ns.map (gq C π))) (hh : holdB C π) : conj ns := by
  induction ns with
  | nil => trivial
  | cons q r ih => exact ⟨gq_hold h.1 hh, ih h.2⟩
theorem effO_obj (e : Eff) : effO e (effObj e) = e := by cases e <;> rfl
theorem stepB_sound {P : Program} {p : Id} {n : Nat} {H H1 : Hp} {o : Ora} {d : Option Nat} {T : Tm} {K : Tm → Hp → Nat → Prop} : ∀ {r : Res} {ns : List Prop} {v : AV} {x : XE}, stepB P H (n :: p) o r = some (ns, v, x) → x.app H (n :: p) = some H1 → conj ns → K (tset d v T) H1 (n + 1) → evr P p d T H n K r := by
  intro r
  induction r with
  | need q r ih =>
    intro ns v x h hx hc hk
    simp only [stepB] at h
    split at h
    · rename_i ns' v' x' e
      cases h
      exact ⟨hc.1, ih e hx hc.2 hk⟩
    · cases h
  | val v0 e0 =>
    intro ns v x h hx hc hk
    cases o <;> simp only [stepB, Option.some.injEq, Prod.mk.injEq, reduceCtorEq] at h
    · obtain ⟨rfl, rfl, rfl⟩ := h; cases hx; exact hk
    · obtain ⟨rfl, rfl, rfl⟩ := h; cases hx
      have e1 := hc.1; subst e1; exact hk
    · obtain ⟨rfl, rfl, rfl⟩ := h; cases hx
      have e1 := hc.1; have e2 := hc.2.1; subst e1 e2
      simp only [effO_obj] at hk; exact hk
  | call f args =>
    intro ns v x h hx hc hk
    cases o <;> simp only [stepB, Option.some.injEq, Prod.mk.injEq, reduceCtorEq] at h
    · obtain ⟨rfl, rfl, rfl⟩ := h; cases hx; exact callK_pure hc.1 hk
    · obtain ⟨rfl, rfl, rfl⟩ := h; cases hx
      exact callK_at hc.1 (fun v1 H1 ⟨e1, e2⟩ => by subst e1 e2; exact hk)
    · obtain ⟨rfl, rfl, rfl⟩ := h; cases hx; exact callK_frz hc.1 hc.2.1 hk
    · obtain ⟨rfl, rfl, rfl⟩ := h; cases hx
  | yld i args =>
    intro ns v x h hx hc hk
    cases o <;> simp only [stepB, Option.some.injEq, Prod.mk.injEq, reduceCtorEq] at h
    obtain ⟨rfl, rfl, rfl⟩ := h; cases hx
    exact ⟨_, hc.1, fun v1 H1 ⟨e1, e2⟩ => by subst e1 e2; exact hk⟩
  | fail => intro ns v x h; simp [stepB] at h
theorem pickV_eq (c : Bool) (x y : AV) : pickV c x y = bif c then x else y := by
  unfold pickV
  split
  · cases c <;> rfl
  · split
    · rename_i e; subst e; cases c <;> rfl
    · rfl
  · cases c <;> rfl
  · rfl
theorem evo_lowB {u : List Nat} {C : Gm} {T : Tm} {π : List (Nat × Bool)} (hr : RelB u C T) (hh : holdB C π) {x : Operand} (h : (opTmps (.move x)).all (rdable C π) = true) : evo (lowB π C) x = evo T x := by
  have : evOp default (lowB π C) [] [] (.move x) = evOp default T [] [] (.move x) := evOp_congr fun t ht => rdable_eq hr hh (List.all_eq_true.1 h t ht)
  simp only [evOp, Res.val.injEq, and_true] at this
  exact this
theorem guardB_hold {C : Gm} {u : List Nat} {T : Tm} {t : Nat} {b : Bool} {π : List (Nat × Bool)} (hr : RelB u C T) (h : guardB C (some (t, b)) = some π) :
    (∀ l ∈ π, l.1 ∈ guardU (some (t, b)) u) ∧ ((holdB C π ∧ tget T t = .tv (.bool b)) ∨ (¬ holdB C π ∧ (tget T t = .tv (.bool !b) ∨ tget T t = .tup []))) := by
  unfold guardB at h
  simp only at h
  split at h
  · rename_i c e
    cases h
    refine ⟨fun l hl => by simp at hl; subst hl; simp [guardU], ?_⟩
    have ht := hr.v t _ e
    have hb : bval C t = c := by unfold bval; rw [e]; rfl
    by_cases hc : c = b
    · subst hc; exact .inl ⟨fun l hl => by simp at hl; subst hl; exact hb, ht⟩
    · refine .inr ⟨fun hh => hc (by rw [← hb]; exact hh (t, b) (by simp)), .inl ?_⟩
      rw [ht]; cases c <;> cases b <;> simp_all
  · rename_i π0 c e
    cases h
    obtain ⟨h1, h2, h3⟩ := hr.c t _ _ e
    have hb : bval C t = c := by unfold bval; rw [e]; rfl
    refine ⟨fun l hl => by
      simp at hl
      rcases hl with rfl | hl
      · simp [guardU]
      · simp [guardU]; exact .inr (h1 l hl), ?_⟩
    by_cases hh0 : holdB C π0
    · have ht := h2 hh0
      by_cases hc : c = b
      · subst hc
        exact .inl ⟨fun l hl => by
          simp at hl
          rcases hl with rfl | hl
          · exact hb
          · exact hh0 l hl, ht⟩
      · refine .inr ⟨fun hh => hc (by rw [← hb]; exact hh (t, b) (by simp)), .inl ?_⟩
        rw [ht]; cases c <;> cases b <;> simp_all
    · exact .inr ⟨fun hh => hh0 (fun l hl => hh l (by simp [hl])), .inr (h3 hh0)⟩
  · cases h
/-- An operation's result comes to v and x. -/
def StepTo (P : Program) (H : Hp) (id : Id) (r : Res) (v : AV) (x : XE) : Prop := ∃ o ns, stepB P H id o r = some (ns, v, x) ∧ conj ns
theorem StepTo.res {P : Program} {H : Hp} {id : Id} {r : Res} {v : AV} {e : Eff} (h : (∃ q, r = .need q (.val v e) ∧ q) ∨ r = .val v e) : StepTo P H id r v (.e e) := by
  rcases h with ⟨q, rfl, hq⟩ | rfl
  · exact ⟨.std, [q], rfl, hq, trivial⟩
  · exact ⟨.std, [], rfl, trivial⟩
/-- What an operation's evaluation yields. -/
structure OpB (P : Program) (C : Gm) (H : Hp) (id : Id) (op : Op) (g : Option (Nat × Bool)) (u u' : List Nat) (ns : List Prop) (x : GV) (e : XE) : Prop where
  le : ∀ t ∈ u, t ∈ u'
  run : ∀ T, RelB u C T → conj ns → match g with
    | none => ∃ v, x = .v v ∧ StepTo P H id (evOp P T H id op) v e
    | some (t, b) => ∃ v π, x = .c π v ∧ e = .e .no ∧ (∀ l ∈ π, l.1 ∈ u') ∧ ((holdB C π ∧ tget T t = .tv (.bool b) ∧ StepTo P H id (evOp P T H id op) v (.e .no)) ∨
        (¬ holdB C π ∧ (tget T t = .tv (.bool !b) ∨ tget T t = .tup [])))
theorem guardU_le (g : Option (Nat × Bool)) (u : List Nat) : ∀ t ∈ u, t ∈ guardU g u := by
  intro t ht
  cases g with
  | none => exact ht
  | some tb => simp [guardU, ht]
theorem opB_pick {P : Program} {C : Gm} {H : Hp} {id : Id} {y a b : Operand} {g : Option (Nat × Bool)} {u u' : List Nat} {o : Ora} {ns : List Prop} {x : GV} {e : XE} (h : opB P C H id (.pick y a b) g u o = some (u', ns, x, e)) : OpB P C H id (.pick y a b) g u u' ns x e := by
  unfold opB at h
  cases hg : guardB C g with
  | none => rw [hg] at h; cases h
  | some π =>
    rw [hg] at h
    cases y with
    | tmp y =>
      simp only at h
      split at h
      · cases h
      · rename_i hrd
        simp only [Bool.and_eq_true] at hrd
        obtain ⟨⟨hry, hra⟩, hrb⟩ := hrd
        split at h
        · rename_i c hc
          cases h
          have hbv : bval C y = c := by unfold bval; rw [hc]
          have key : ∀ T, RelB u C T → holdB C π → StepTo P H id (evOp P T H id (.pick (.tmp y) a b)) (pickV c (evo (lowB ((y, true) :: π) C) a) (evo (lowB ((y, false) :: π) C) b)) (.e .no) := by
            intro T hr hh
            have hy := rdable_val hr hh hry
            rw [hc] at hy
            have hev : evOp P T H id (.pick (.tmp y) a b) = .val (bif c then evo T a else evo T b) .no := by
              show evPick (tget T y) (evo T a) (evo T b) = _
              rw [hy]; rfl
            rw [hev, pickV_eq]
            cases c with
            | true =>
              rw [evo_lowB hr (x := a) (π := (y, true) :: π) (fun l hl => by
                simp at hl
                rcases hl with rfl | hl
                · exact hbv
                · exact hh l hl) hra]
              exact ⟨.std, [], rfl, trivial⟩
            | false =>
              rw [evo_lowB hr (x := b) (π := (y, false) :: π) (fun l hl => by
                simp at hl
                rcases hl with rfl | hl
                · exact hbv
                · exact hh l hl) hrb]
              exact ⟨.std, [], rfl, trivial⟩
          refine ⟨fun t ht => by simp; exact .inr (guardU_le g u t ht), fun T hr _ => ?_⟩
          cases g with
          | none =>
            cases hg
            exact ⟨_, rfl, key T hr (fun l hl => by simp at hl)⟩
          | some tb =>
            obtain ⟨t, b'⟩ := tb
            obtain ⟨h1, h2⟩ := guardB_hold hr hg
            refine ⟨_, π, rfl, rfl, fun l hl => by simp; exact .inr (h1 l hl), ?_⟩
            rcases h2 with ⟨hh, ht⟩ | hn
            · exact .inl ⟨hh, ht, key T hr hh⟩
            · exact .inr hn
        · cases h
    | _ => simp at h
theorem opB_rest {P : Program} {C : Gm} {H : Hp} {id : Id} {op : Op} {g : Option (Nat × Bool)} {u u' : List Nat} {o : Ora} {ns : List Prop} {x : GV} {e : XE} {π : List (Nat × Bool)} (hg : guardB C g = some π)
    (h : restB P C H id op g u o π = some (u', ns, x, e)) : OpB P C H id op g u u' ns x e := by
  unfold restB at h
  split at h
  · cases h
  · rename_i hrd
    have hev : ∀ T, RelB u C T → holdB C π → evOp P (lowB π C) H id op = evOp P T H id op := fun T hr hh => evOp_congr fun t ht => rdable_eq hr hh (List.all_eq_true.1 hrd t ht)
    split at h
    · rename_i r v e0
      cases g with
      | some tb => cases h
      | none =>
        cases h; cases hg
        refine ⟨fun t ht => ht, fun T hr hc => ⟨_, rfl, ?_⟩⟩
        rw [← hev T hr (fun l hl => by simp at hl)]
        have h1 := hc.1
        rw [h1]
        exact StepTo.res hc.2.1
    · split at h
      · rename_i ns0 v x0 hst
        cases g with
        | none =>
          cases h; cases hg
          refine ⟨fun t ht => ht, fun T hr hc => ⟨_, rfl, ?_⟩⟩
          rw [hev T hr (fun l hl => by simp at hl)] at hst
          exact ⟨_, _, hst, hc⟩
        | some tb =>
          obtain ⟨t, b⟩ := tb
          simp only at h
          split at h
          · cases h
            refine ⟨guardU_le _ _, fun T hr hc => ?_⟩
            obtain ⟨h1, h2⟩ := guardB_hold hr hg
            refine ⟨_, π, rfl, rfl, h1, ?_⟩
            rcases h2 with ⟨hh, ht⟩ | hn
            · refine .inl ⟨hh, ht, ?_⟩
              rw [hev T hr hh] at hst
              exact ⟨_, _, hst, conj_gq hc hh⟩
            · exact .inr hn
          · cases h
      · cases h
theorem opB_sound {P : Program} {C : Gm} {H : Hp} {id : Id} {op : Op} {g : Option (Nat × Bool)} {u u' : List Nat} {o : Ora} {ns : List Prop} {x : GV} {e : XE} (h : opB P C H id op g u o = some (u', ns, x, e)) : OpB P C H id op g u u' ns x e := by
  by_cases hp : ∃ y a b, op = .pick y a b
  · obtain ⟨y, a, b, rfl⟩ := hp; exact opB_pick h
  · unfold opB at h
    cases hg : guardB C g with
    | none => rw [hg] at h; cases h
    | some π =>
      rw [hg] at h
      refine opB_rest (o := o) hg ?_
      cases op <;> first | (exact absurd ⟨_, _, _, rfl⟩ hp) | exact h
theorem StepTo.evr {P : Program} {p : Id} {n : Nat} {H H1 : Hp} {d : Option Nat} {T : Tm} {K : Tm → Hp → Nat → Prop} {r : Res} {v : AV} {x : XE} (h : StepTo P H (n :: p) r v x) (hx : x.app H (n :: p) = some H1) (hk : K (tset d v T) H1 (n + 1)) : Go.Proofs.Ythmimpiegnnmdaa.evr P p d T H n K r := by
  obtain ⟨o, ns, h1, h2⟩ := h
  exact stepB_sound h1 hx h2 hk
theorem evB_evs {P : Program} {p : Id} {K : Tm → Hp → Nat → Prop} : ∀ {os : List SOp} {ors : List Ora} {u : List Nat} {C C' : Gm} {T : Tm} {H H' : Hp} {n n' : Nat} {ns : List Prop}, RelB u C T →
    evB P p os ors u C H n = some (ns, C', H', n') → conj ns → (∀ u' T', RelB u' C' T' → K T' H' n') → evs P p os T H n K := by
  intro os
  induction os with
  | nil =>
    intro ors u C C' T H H' n n' ns hr h _ hk
    simp only [evB, Option.some.injEq, Prod.mk.injEq] at h
    obtain ⟨_, rfl, rfl, rfl⟩ := h
    exact hk u T hr
  | cons so os ih =>
    intro ors u C C' T H H' n n' ns hr h hc hk
    obtain ⟨d, op, g⟩ := so
    simp only [evB] at h
    split at h
    · cases h
    · rename_i u' ns1 x e ho
      split at h
      · cases h
      · rename_i hd
        split at h
        · cases h
        · rename_i H1 hx
          split at h
          · rename_i ns2 C2 H2 n2 hrest
            simp only [Option.some.injEq, Prod.mk.injEq] at h
            obtain ⟨rfl, rfl, rfl, rfl⟩ := h
            obtain ⟨hc1, hc2⟩ := conj_app.1 hc
            have hop := opB_sound ho
            have hrun := hop.run T hr hc1
            cases g with
            | none =>
              obtain ⟨v, rfl, hrun⟩ := hrun
              exact hrun.evr hx (ih (hr.setv hop.le hd v) hrest hc2 hk)
            | some tb =>
              obtain ⟨t, b⟩ := tb
              obtain ⟨v, π, rfl, rfl, hπ, hrun⟩ := hrun
              cases hx
              simp only [evs]
              rcases hrun with ⟨hh, ht, hrun⟩ | ⟨hn, ht⟩
              · rw [ht]
                refine ⟨fun _ => hrun.evr rfl (ih (hr.setc hop.le hd hπ v v ⟨fun _ => rfl, fun hn => absurd hh hn⟩) hrest hc2 hk), fun e => by cases b <;> cases e⟩
              · have hsk := ih (hr.setc hop.le hd hπ v (.tup []) ⟨fun hh => absurd hh hn, fun _ => rfl⟩) hrest hc2 hk
                rcases ht with ht | ht
                · rw [ht]; exact ⟨fun e => (by cases b <;> cases e), fun _ => hsk⟩
                · rw [ht]; exact hsk
          · cases h
theorem Gh.gkeep {u : List Nat} {C : Gm} {T : Tm} (hr : RelB u C T) (hd : ∀ π a, gvGet C 1000000 ≠ .c π a) (l : List Nat) (H : Hp) (p : Id) (n : Nat) : Gh ⟨T, H, p, n⟩ ⟨gkeep l C, H, p, n⟩ := by
  have h0 : tget T 1000000 = gvVal (gvGet C 1000000) := by
    cases hc : gvGet C 1000000 with
    | v a => exact hr.v _ a hc
    | c π a => exact absurd hc (hd π a)
  refine Gh.less (fun t => ?_) ?_ (fun _ _ h => h) (Nat.le_refl _)
  · simp only [Go.Proofs.Ythmimpiegnnmdaa.gkeep, tget]
    split
    · rename_i e; subst e; exact .inl h0.symm
    · induction l with
      | nil => exact .inr rfl
      | cons k l ih =>
        simp only [List.map_cons, tget]
        split
        · rename_i e; subst e
          cases hc : gvGet C k with
          | v a => exact .inl (hr.v _ a hc).symm
          | c g a => exact .inr rfl
        · exact ih
  · simp only [Go.Proofs.Ythmimpiegnnmdaa.gkeep, tget, if_true]
    exact h0.symm
theorem slims_dst {ops : Array Oper} {nt : Nat} : ∀ {l : List Oper} {os : List SOp}, l.all (operOk nt) = true → slims ops l = some os → ∀ o ∈ os, ∀ d, o.dst = some d → d < nt := by
  intro l
  induction l with
  | nil => intro os _ h o ho; simp [slims] at h; subst h; simp at ho
  | cons x l ih =>
    intro os hall h o ho d hd
    simp only [slims] at h
    simp only [List.all_cons, Bool.and_eq_true] at hall
    cases hx : slimOp ops x with
    | none => rw [hx] at h; simp at h
    | some y =>
      cases hm : slims ops l with
      | none => rw [hx, hm] at h; simp at h
      | some r =>
        rw [hx, hm] at h; simp at h; subst h
        simp at ho
        rcases ho with rfl | ho
        · have h1 := hall.1
          simp only [operOk, Bool.and_eq_true] at h1
          have h2 := h1.1.2
          have : x.dst = o.dst := by
            unfold slimOp at hx
            split at hx
            · cases hx; rfl
            · split at hx
              · cases hx; rfl
              · cases hx
          rw [this, hd] at h2
          simpa using h2
        · exact ih hall.2 hm o ho d hd
theorem evB_keep {P : Program} {p : Id} {nt : Nat} (hnt : nt ≤ 1000000) : ∀ {os : List SOp} {ors : List Ora} {u : List Nat} {C C' : Gm} {H H' : Hp} {n n' : Nat} {ns : List Prop}, (∀ o ∈ os, ∀ d, o.dst = some d → d < nt) →
    evB P p os ors u C H n = some (ns, C', H', n') → gvGet C' 1000000 = gvGet C 1000000 := by
  intro os
  induction os with
  | nil =>
    intro ors u C C' H H' n n' ns _ h
    simp only [evB, Option.some.injEq, Prod.mk.injEq] at h
    obtain ⟨_, rfl, _⟩ := h; rfl
  | cons so os ih =>
    intro ors u C C' H H' n n' ns hd h
    obtain ⟨d, op, g⟩ := so
    simp only [evB] at h
    split at h
    · cases h
    · split at h
      · cases h
      · split at h
        · cases h
        · split at h
          · rename_i hrest
            cases h
            rw [ih (fun o ho => hd o (by simp [ho])) hrest, gvGet_set, if_neg]
            intro e
            have := hd ⟨d, op, g⟩ (by simp) 1000000 e
            omega
          · cases h
theorem slim_all {nt : Nat} {ops : Array Oper} {os : List SOp} (h : slim nt ops = some os) : ops.toList.all (operOk nt) = true ∧ slims ops ops.toList = some os := by
  unfold slim at h
  split at h
  · rename_i hall; exact ⟨hall, h⟩
  · cases h
theorem at_B {E : En} {Q : Exit → St → Prop} {id : Nat} {ops : Array Oper} {d : Code} {T : Tm} {H : Hp} {p : Id} {n : Nat} (l : List Nat) (ors : List Ora) (ns : List Prop) (T1 : Tm) (H1 : Hp) (n1 : Nat)
    (h : regB E.nt E.P p ops ors l T H n = some (ns, T1, H1, n1)) (hc : conj ns) (hk : AT E d Q ⟨T1, H1, p, n1⟩) : AT E (.seq (.region id ops false) d) Q ⟨T, H, p, n⟩ := by
  refine at_fact (E.nt ≤ 1000000) (fun _ _ _ _ _ _ _ _ ⟨_, _, hs⟩ => hs.nk) fun hnk => ?_
  unfold regB at h
  split at h
  · cases h
  · rename_i os hsl
    split at h
    · rename_i ns' C H' n' hev
      cases h
      have hkeep := evB_keep hnk (slims_dst (slim_all hsl).1 (slim_all hsl).2) hev
      refine at_seq (at_region hsl (evB_evs (RelB.up T) hev hc (fun u' T' hr => at_pre (Gh.gkeep hr (fun π a => by rw [hkeep, gvGet_upB]; exact fun e => by cases e) l H1 p n1) hk)))
    · cases h
theorem at_Bl {E : En} {Q : Exit → St → Prop} {id : Nat} {ops : Array Oper} {T : Tm} {H : Hp} {p : Id} {n : Nat} (l : List Nat) (ors : List Ora) (ns : List Prop) (T1 : Tm) (H1 : Hp) (n1 : Nat)
    (h : regB E.nt E.P p ops ors l T H n = some (ns, T1, H1, n1)) (hc : conj ns) (hk : Q .normal ⟨T1, H1, p, n1⟩) : AT E (.region id ops false) Q ⟨T, H, p, n⟩ := by
  have := at_B (d := .skip) (Q := Q) (id := id) l ors ns T1 H1 n1 h hc (at_skip hk)
  intro B w0 σ0 ι0 q ds a w hs
  refine at_fact (E.nt ≤ 1000000) (fun _ _ _ _ _ _ _ _ ⟨_, _, hs⟩ => hs.nk) (fun hnk => ?_) B w0 σ0 ι0 q ds a w hs
  unfold regB at h
  split at h
  · cases h
  · rename_i os hsl
    split at h
    · rename_i ns' C H' n' hev
      cases h
      have hkeep := evB_keep hnk (slims_dst (slim_all hsl).1 (slim_all hsl).2) hev
      refine at_post (Q' := fun e s => e = .normal ∧ Gh s ⟨gkeep l C, H1, p, n1⟩) (at_region hsl (evB_evs (RelB.up T) hev hc (fun u' T' hr => ⟨rfl, Gh.gkeep hr (fun π a => by rw [hkeep, gvGet_upB]; exact fun e => by cases e) l H1 p n1⟩))) ?_
      rintro e s ⟨rfl, hg⟩
      exact ⟨_, hg, hk⟩
    · cases h
end Go.Proofs.Ythmimpiegnnmdaa
