/- Regions of operations; calls; states and the triple of a piece of code. -/
import Derived.Test.YthmimpiegnnmdaaAbs9
namespace Go.Proofs.Ythmimpiegnnmdaa
open Go.RowKit
set_option linter.unusedSimpArgs false
set_option linter.unusedVariables false

/-- A call, told: under the ids that begin with q (in the path's sense) it may lay blocks of its own. -/
def CallOK (P : Program) (f : FuncId) (args : List AV) (H : Hp) (q : Id) (post : AV → Hp → Prop) : Prop :=
  ∀ B w0 σ ι w us, WR B w0 σ ι H w → (∀ j, q <:+ j → ι j = none) → VRs σ ι args us →
    CallsIn Fence.wide 0 P f us.toArray w fun e w' => ∃ v u H' σ' ι', e = .returned u ∧ post v H' ∧ VR σ' ι' v u ∧ WR B w0 σ' ι' H' w' ∧
      (∀ x y, σ x y → σ' x y) ∧ (∀ j y, ι j = some y → ι' j = some y) ∧ ∀ j, ¬ q <:+ j → ι' j = ι j
/-- A call that only reads and hands back a value without ids. -/
def PureCall (P : Program) (f : FuncId) (args : List AV) (v : AV) : Prop := ∀ H q, CallOK P f args H q fun v' H' => v' = v ∧ H' = H
theorem CallOK.mono {P : Program} {f : FuncId} {args : List AV} {H : Hp} {q : Id} {post post' : AV → Hp → Prop} (h : CallOK P f args H q post) (hp : ∀ v H', post v H' → post' v H') : CallOK P f args H q post' := by
  intro B w0 σ ι w us hw hq hus
  refine ⟨(h B w0 σ ι w us hw hq hus).1, fun cs hr => ?_⟩
  obtain ⟨e, w', fr, ⟨v, u, H', σ', ι', he, hpost, rest⟩, x⟩ := (h B w0 σ ι w us hw hq hus).2 cs hr
  exact ⟨e, w', fr, ⟨v, u, H', σ', ι', he, hp _ _ hpost, rest⟩, x⟩

/-- A call of the function by which a range over a function runs its rounds, told. -/
def YldOK (P : Program) (i : Id) (args : List AV) (H : Hp) (q : Id) (post : AV → Hp → Prop) : Prop :=
  ∀ B w0 σ ι w us l n, WR B w0 σ ι H w → (∀ j, q <:+ j → ι j = none) → VRs σ ι args us → ι i = some (some (l, n)) →
    ∃ f tmps asg body, (Instr.yield l us.toArray).run P w = .ok (.round l f tmps asg body) w ∧
    RoundIn Fence.wide 0 P l f tmps asg body w fun e w' => ∃ v u H' σ' ι', e = .returned u ∧ post v H' ∧ VR σ' ι' v u ∧ WR B w0 σ' ι' H' w' ∧
      (∀ x y, σ x y → σ' x y) ∧ (∀ j y, ι j = some y → ι' j = some y) ∧ ∀ j, ¬ q <:+ j → ι' j = ι j
structure SOp where
  dst : Option Nat
  op : Op
  g : Option (Nat × Bool)
def slimOp (ops : Array Oper) (o : Oper) : Option SOp := match o.guard with
  | none => some ⟨o.dst, o.op, none⟩
  | some (j, b) => match (ops[j]?).bind (·.dst) with
    | some t => some ⟨o.dst, o.op, some (t, b)⟩
    | none => none
def noDefer : Op → Bool
  | .defer _ => false
  | _ => true
def operOk (nt : Nat) (o : Oper) : Bool := opOk o && (match o.dst with | some d => decide (d < nt) | none => true) && noDefer o.op
def slims (ops : Array Oper) : List Oper → Option (List SOp)
  | [] => some []
  | o :: r => match slimOp ops o with
    | some x => match slims ops r with
      | some y => some (x :: y)
      | none => none
    | none => none
def slim (nt : Nat) (ops : Array Oper) : Option (List SOp) := match ops.toList.all (operOk nt) with
  | true => slims ops ops.toList
  | false => none

def tset (d : Option Nat) (v : AV) (T : Tm) : Tm := match d with
  | some d => (d, v) :: T
  | none => T
/-- A slice of one's own, read as a tree from now on. -/
def frzV (H : Hp) : AV → Option (AV × Hp)
  | .sl i sz off len => match hget H i with
    | some (.row cells _) => match tvs cells with
      | some ts => if off = 0 ∧ ts.length = len * sz ∧ 0 < sz then some (.tv (.sli sz (chunk sz len ts)), hset H i (.row cells true)) else none
      | none => none
    | _ => none
  | v => some (v, H)
def frzs : List AV → Hp → Option (List AV × Hp)
  | [], H => some ([], H)
  | v :: r, H => match frzV H v with
    | some (v', H1) => match frzs r H1 with
      | some (r', H2) => some (v' :: r', H2)
      | none => none
    | none => none
/-- What a call asks: a contract, of the arguments as they are or of their slices read as trees; and what goes on behind it. -/
def callK (P : Program) (f : FuncId) (args : List AV) (H : Hp) (q : Id) (K : AV → Hp → Prop) : Prop :=
  ∃ args' H0, (args' = args ∧ H0 = H ∨ frzs args H = some (args', H0)) ∧ ∃ post, CallOK P f args' H0 q post ∧ ∀ v H', post v H' → K v H'
/-- What an operation's result asks, and what goes on behind it. -/
def evr (P : Program) (p : Id) (d : Option Nat) (T : Tm) (H : Hp) (n : Nat) (K : Tm → Hp → Nat → Prop) : Res → Prop
  | .val v e => K (tset d v T) (e.app H (n :: p)) (n + 1)
  | .need c r => c ∧ evr P p d T H n K r
  | .call f args => callK P f args H (n :: p) fun v H' => K (tset d v T) H' (n + 1)
  | .yld i args => ∃ post, YldOK P i args H (n :: p) post ∧ ∀ v H', post v H' → K (tset d v T) H' (n + 1)
  | .fail => False
/-- Operations in the order of the text. -/
def evs (P : Program) (p : Id) : List SOp → Tm → Hp → Nat → (Tm → Hp → Nat → Prop) → Prop
  | [], T, H, n, K => K T H n
  | ⟨d, op, none⟩ :: os, T, H, n, K => evr P p d T H n (fun T' H' n' => evs P p os T' H' n' K) (evOp P T H (n :: p) op)
  | ⟨d, op, some (t, b)⟩ :: os, T, H, n, K => match tget T t with
    | .tv (.bool c) => (c = b → evr P p d T H n (fun T' H' n' => evs P p os T' H' n' K) (evOp P T H (n :: p) op)) ∧ (c = !b → evs P p os (tset d (.tup []) T) H (n + 1) K)
    | .tup [] => evs P p os (tset d (.tup []) T) H (n + 1) K
    | _ => False

/-- A deferred call, told; and the activation's: they are told under a temporary's number that no function has. -/
def DV (σ : Facts) (ι : Where) (v : AV) (d : Deferred) : Prop := match v with
  | .ptr id _ => ∃ b n, ι id = some (some (b, n)) ∧ d = { target := .collected b, args := #[] }
  | .fn f cap => ∃ us, VRs σ ι cap us ∧ d = { target := .fn f us.toArray, args := #[] }
  | _ => False
def DRel (σ : Facts) (ι : Where) (v : AV) (ms : List Deferred) : Prop := match v with
  | .any => ms = []
  | .ds l => ms.length = l.length ∧ ∀ (j : Nat) v d, l[j]? = some v → ms[j]? = some d → DV σ ι v d
  | _ => False
theorem DV.mono {σ σ' : Facts} {ι ι' : Where} (h : ∀ a v, σ a v → σ' a v) (hι : ∀ id x, ι id = some x → ι' id = some x) {v : AV} {d : Deferred} (hv : DV σ ι v d) : DV σ' ι' v d := by
  cases v with
  | ptr id off => obtain ⟨b, n, h1, h2⟩ := hv; exact ⟨b, n, hι _ _ h1, h2⟩
  | fn f cap => obtain ⟨us, h1, h2⟩ := hv; exact ⟨us, h1.mono h hι, h2⟩
  | _ => exact hv.elim
theorem DRel.mono {σ σ' : Facts} {ι ι' : Where} (h : ∀ a v, σ a v → σ' a v) (hι : ∀ id x, ι id = some x → ι' id = some x) {v : AV} {ms : List Deferred} (hv : DRel σ ι v ms) : DRel σ' ι' v ms := by
  cases v with
  | any => exact hv
  | ds l => exact ⟨hv.1, fun j v d h1 h2 => (hv.2 j v d h1 h2).mono h hι⟩
  | _ => exact hv.elim
def Dfs (σ : Facts) (ι : Where) (T : Tm) (ds defers : List Deferred) : Prop := ∃ ms, defers = ms ++ ds ∧ DRel σ ι (tget T 1000000) ms
theorem Dfs.mono {σ σ' : Facts} {ι ι' : Where} (h : ∀ a v, σ a v → σ' a v) (hι : ∀ id x, ι id = some x → ι' id = some x) {T : Tm} {ds l : List Deferred} (hv : Dfs σ ι T ds l) : Dfs σ' ι' T ds l :=
  let ⟨ms, h1, h2⟩ := hv; ⟨ms, h1, h2.mono h hι⟩
theorem Dfs.same {σ : Facts} {ι : Where} {T T' : Tm} {ds l : List Deferred} (hv : Dfs σ ι T ds l) (h : tget T' 1000000 = tget T 1000000) : Dfs σ ι T' ds l := by
  unfold Dfs at *; rw [h]; exact hv
theorem tget_tset_d {T : Tm} {d : Option Nat} {v : AV} {nt : Nat} (hd : ∀ t, d = some t → t < nt) (hn : nt ≤ 1000000) : tget (tset d v T) 1000000 = tget T 1000000 := by
  cases d with
  | none => rfl
  | some t =>
    have := hd t rfl
    simp only [tset, tget]
    rw [if_neg (by omega)]
structure En where
  P : Program
  rd : Option Nat
  nt : Nat
def En.F (E : En) : Fence := { Fence.wide with round := E.rd }
structure St where
  T : Tm
  H : Hp
  p : Id
  n : Nat
def Fr (ι : Where) (p : Id) (n : Nat) : Prop := ∀ j k, n ≤ k → (k :: p) <:+ j → ι j = none
/-- The machine's activation and world are as told: s. σ0, ι0: what was known when the call (or the loop) began; q: the ids that are its own. -/
structure SRw (E : En) (B : Base) (w0 : World) (σ0 : Facts) (ι0 : Where) (q : Id) (ds : List Deferred) (s : St) (a : Act) (w : World) (σ : Facts) (ι : Where) : Prop where
  le : ∀ x y, σ0 x y → σ x y
  lei : ∀ j y, ι0 j = some y → ι j = some y
  out : ∀ j, ¬ q <:+ j → ι j = ι0 j
  wr : WR B w0 σ ι s.H w
  tr : TRel σ ι s.T a.tmps
  nt : a.tmps.size = E.nt
  qp : q <:+ s.p
  fr : Fr ι s.p s.n
  df : Dfs σ ι s.T ds a.defers
  nk : E.nt ≤ 1000000
def SR (E : En) (B : Base) (w0 : World) (σ0 : Facts) (ι0 : Where) (q : Id) (ds : List Deferred) (s : St) (a : Act) (w : World) : Prop := ∃ σ ι, SRw E B w0 σ0 ι0 q ds s a w σ ι
/-- From a told state the code comes to an exit and a told state of Q. -/
def AT (E : En) (c : Code) (Q : Exit → St → Prop) (s : St) : Prop :=
  ∀ B w0 σ0 ι0 q ds a w, SR E B w0 σ0 ι0 q ds s a w → c.wpIn E.F 0 E.P (fun e a' w' => ∃ s', Q e s' ∧ SR E B w0 σ0 ι0 q ds s' a' w') a w

theorem suffix_cons_ne {p j : Id} {k m : Nat} (h1 : (k :: p) <:+ j) (h2 : (m :: p) <:+ j) : k = m := by
  obtain ⟨l1, e1⟩ := h1
  obtain ⟨l2, e2⟩ := h2
  rw [← e2] at e1
  have hlen : l1.length = l2.length := by
    have := congrArg List.length e1; simp at this; omega
  have := List.append_inj e1 hlen
  simpa using this.2
section
variable {E : En} {B : Base} {w0 w : World} {σ0 : Facts} {ι0 : Where} {q : Id} {ds : List Deferred} {s : St} {a : Act}
theorem TRel.put {σ : Facts} {ι : Where} {T : Tm} {d : Option Nat} {v : AV} {u : Value} (hT : TRel σ ι T a.tmps) (hd : ∀ t, d = some t → t < a.tmps.size) (hv : VR σ ι v u) : TRel σ ι (tset d v T) (a.put d u).tmps := by
  cases d with
  | none => exact hT
  | some t =>
    intro k
    have hlt := hd t rfl
    simp only [tset, tget, Act.put]
    by_cases e : t = k
    · subst e
      rw [if_pos rfl]
      simp [Array.getD, hlt]
      exact hv
    · rw [if_neg e]
      have := hT k
      simp only [Array.getD_eq_getD_getElem?, Array.getElem?_setIfInBounds_ne e] at this ⊢
      exact this
theorem SRw.put {σ σ' : Facts} {ι ι' : Where} {d : Option Nat} {v : AV} {u : Value} {H' : Hp} {w' : World} (h : SRw E B w0 σ0 ι0 q ds s a w σ ι) (hd : ∀ t, d = some t → t < E.nt) (hv : VR σ' ι' v u) (hw : WR B w0 σ' ι' H' w')
    (h1 : ∀ x y, σ x y → σ' x y) (h2 : ∀ j y, ι j = some y → ι' j = some y) (h3 : ∀ j, ¬ (s.n :: s.p) <:+ j → ι' j = ι j) :
    SRw E B w0 σ0 ι0 q ds ⟨tset d v s.T, H', s.p, s.n + 1⟩ (a.put d u) w' σ' ι' := by
  refine ⟨fun x y hx => h1 _ _ (h.le x y hx), fun j y hj => h2 _ _ (h.lei j y hj), fun j hj => ?_, hw, TRel.put (fun t => (h.tr t).mono h1 h2) (fun t e => by rw [h.nt]; exact hd t e) hv, ?_, h.qp, ?_, ?_, h.nk⟩
  · rw [h3 j (fun hs => hj ((h.qp.trans (List.suffix_cons _ _)).trans hs))]; exact h.out j hj
  · cases d <;> simp [Act.put, h.nt]
  · intro j k hk hj
    have hk' : s.n + 1 ≤ k := hk
    rw [h3 j (fun hs => by have := suffix_cons_ne hj hs; omega)]
    exact h.fr j k (by omega) hj
  · have := (h.df.mono h1 h2).same (tget_tset_d (v := v) hd h.nk)
    cases d <;> exact this
theorem frzV_ok {σ : Facts} {ι : Where} {H H' : Hp} {v v' : AV} (hw : WR B w0 σ ι H w) (h : frzV H v = some (v', H')) :
    ∃ σ', (∀ x y, σ x y → σ' x y) ∧ WR B w0 σ' ι H' w ∧ ∀ u, VR σ ι v u → VR σ' ι v' u := by
  unfold frzV at h
  split at h
  · rename_i i sz off len
    split at h
    · rename_i cells ro hh
      split at h
      · rename_i ts hts
        split at h
        · rename_i hc
          obtain ⟨rfl, hl, hsz⟩ := hc
          simp only [Option.some.injEq, Prod.mk.injEq] at h; obtain ⟨rfl, rfl⟩ := h
          have hcs := tvs_some hts
          cases hi : ι i with
          | none => exact absurd hi (hw.dom i _ hh)
          | some x =>
            cases x with
            | none =>
              obtain ⟨ro', he⟩ := hw.ghost i _ hh hi
              cases he
              have hts0 : ts = [] := by cases ts with | nil => rfl | cons a l => simp at hcs
              have hl0 : len = 0 := by
                have h0 : len * sz = 0 := by rw [← hl, hts0]; rfl
                rcases Nat.mul_eq_zero.1 h0 with h | h <;> omega
              subst hts0 hl0
              -- the row is empty: nothing is to be known
              refine ⟨σ, fun _ _ h => h, ?_, fun u hu => ?_⟩
              · refine ⟨hw.hB, hw.below, fun j o b n hj hij => ?_, fun j o hj hij => ?_, fun j o hj => ?_, fun j j' o o' b n n' h1 h2 h3 h4 => ?_, hw.sure, fun a x hs j o b n hj hij hb => ?_, hw.newf⟩
                · rw [hget_hset] at hj
                  by_cases e : i = j
                  · subst e; rw [hi] at hij; cases hij
                  · rw [if_neg e] at hj; exact hw.obj j o b n hj hij
                · rw [hget_hset] at hj
                  by_cases e : i = j
                  · subst e; rw [if_pos rfl, hh] at hj; simp at hj; exact ⟨true, hj.symm⟩
                  · rw [if_neg e] at hj; exact hw.ghost j o hj hij
                · rw [hget_hset] at hj
                  by_cases e : i = j
                  · subst e; rw [hi]; simp
                  · rw [if_neg e] at hj; exact hw.dom j o hj
                · have g1 : ∃ y, hget H j = some y := by
                    rw [hget_hset] at h1
                    by_cases e : i = j
                    · subst e; exact ⟨_, hh⟩
                    · rw [if_neg e] at h1; exact ⟨_, h1⟩
                  have g2 : ∃ y, hget H j' = some y := by
                    rw [hget_hset] at h2
                    by_cases e : i = j'
                    · subst e; exact ⟨_, hh⟩
                    · rw [if_neg e] at h2; exact ⟨_, h2⟩
                  obtain ⟨y1, g1⟩ := g1
                  obtain ⟨y2, g2⟩ := g2
                  exact hw.inj j j' y1 y2 b n n' g1 g2 h3 h4
                · rw [hget_hset] at hj
                  by_cases e : i = j
                  · subst e; rw [hi] at hij; cases hij
                  · rw [if_neg e] at hj; exact hw.stab a x hs j o b n hj hij hb
              · cases hu with
                | sl _ _ _ _ b n cap hi' => rw [hi] at hi'; cases hi'
                | sl0 _ _ _ A => exact .tv (by have := TR.sli (σ := σ) sz [] A 0 (fun _ _ => undef) (by simp) (by simp) (fun _ => rfl) (fun r hr => by simp at hr) (fun i j r c h => by simp at h) (fun a i j r c _ h => by simp at h); exact this)
            | some bn =>
              obtain ⟨b, n⟩ := bn
              refine ⟨_, fun _ _ h => .inl h, hw.freeze hh hi, fun u hu => ?_⟩
              cases hu with
              | sl0 _ _ _ A =>
                exact .tv (by have := TR.sli (σ := froz σ b cells.length w) sz [] A 0 (fun _ _ => undef) (by simp) (by simp) (fun _ => rfl) (fun r hr => by simp at hr) (fun i j r c h => by simp at h) (fun a i j r c _ h => by simp at h); exact this)
              | sl _ _ _ _ b' n' cap hi' hc hn' hm =>
                rw [hi] at hi'; cases hi'
                simp only [Nat.zero_mul]
                refine .tv (TR.ofCells (us := fun j => (w.cell? ⟨b, j, none⟩).getD undef) hl hc hm (fun j c hj => ?_))
                have hj' : cells[j]? = some (.tv c) := by rw [hcs]; simp [hj]
                obtain ⟨u, h1, h2, _⟩ := hw.cell hh hi hj'
                rw [h1]
                simp only [Option.getD_some]
                cases h2 with
                | tv h2 => exact ⟨h2.mono (fun _ _ h => .inl h), .inr ⟨rfl, (List.getElem?_eq_some_iff.1 hj').1, h1⟩⟩
        · cases h
      · cases h
    · cases h
  · simp only [Option.some.injEq, Prod.mk.injEq] at h; obtain ⟨rfl, rfl⟩ := h
    exact ⟨σ, fun _ _ h => h, hw, fun u hu => hu⟩
theorem frzs_ok : ∀ (vs : List AV) (σ : Facts) (ι : Where) (H H' : Hp) (vs' : List AV) (us : List Value), WR B w0 σ ι H w → frzs vs H = some (vs', H') → VRs σ ι vs us →
    ∃ σ', (∀ x y, σ x y → σ' x y) ∧ WR B w0 σ' ι H' w ∧ VRs σ' ι vs' us := by
  intro vs
  induction vs with
  | nil =>
    intro σ ι H H' vs' us hw h hv
    simp only [frzs, Option.some.injEq, Prod.mk.injEq] at h; obtain ⟨rfl, rfl⟩ := h
    exact ⟨σ, fun _ _ h => h, hw, hv⟩
  | cons v vs ih =>
    intro σ ι H H' vs' us hw h hv
    obtain ⟨u, us', rfl, hu, hus⟩ := hv.cons_inv
    simp only [frzs] at h
    split at h
    · rename_i v' H1 h1
      split at h
      · rename_i r' H2 h2
        simp only [Option.some.injEq, Prod.mk.injEq] at h; obtain ⟨rfl, rfl⟩ := h
        obtain ⟨σ1, l1, hw1, hv1⟩ := frzV_ok hw h1
        obtain ⟨σ2, l2, hw2, hv2⟩ := ih σ1 ι H1 _ _ us' hw1 h2 (hus.mono l1 (fun _ _ h => h))
        exact ⟨σ2, fun x y h => l2 _ _ (l1 _ _ h), hw2, VRs.cons ((hv1 u hu).mono l2 (fun _ _ h => h)) hv2⟩
      · cases h
    · cases h
theorem evr_sound {o : Oper} {r : Res} {K : Tm → Hp → Nat → Prop} {next : Act → World → Prop} {Q : Exit → Act → World → Prop} {σ : Facts} {ι : Where} (hs : SRw E B w0 σ0 ι0 q ds s a w σ ι) (hok : operOk E.nt o = true)
    (hsat : Sat E.P (execOp a.eval o) w B w0 σ ι s.H (s.n :: s.p) r) (hK : ∀ T' H' n' a' w', K T' H' n' → SR E B w0 σ0 ι0 q ds ⟨T', H', s.p, n'⟩ a' w' → next a' w')
    (hr : evr E.P s.p o.dst s.T s.H s.n K r) : o.wpIn E.F 0 E.P a w next Q := by
  simp only [operOk, Bool.and_eq_true] at hok
  obtain ⟨⟨_, hd⟩, hnd⟩ := hok
  have hd' : ∀ t, o.dst = some t → t < E.nt := by
    intro t ht; rw [ht] at hd; simpa using hd
  have hsem : o.semAt E.F.round a.eval = execOp a.eval o := Oper.semAt_eq _ _ _ (fun c hc => by rw [hc] at hnd; simp [noDefer] at hnd)
  refine ⟨fun _ _ => trivial, ?_⟩
  rw [hsem]
  induction r with
  | val v e =>
    obtain ⟨u, w', hrun, σ', ι', hv, hw, h1, h2, h3⟩ := hsat
    have hsr := hs.put hd' hv hw h1 h2 (fun j hj => h3 j (fun e => hj (by rw [e]; exact List.suffix_refl _)))
    have := hK _ _ _ _ _ hr ⟨σ', ι', hsr⟩
    rcases hrun with hrun | ⟨hrun, rfl⟩
    · rw [hrun]; exact this
    · rw [hrun]; exact this
  | need c r ih => exact ih (hsat hr.1) hr.2
  | call f args =>
    obtain ⟨us, hrun, hus⟩ := hsat
    obtain ⟨args', H0, hargs, post, hc, hk⟩ := hr
    rw [hrun]
    refine ⟨fun h => (by simp [En.F, Fence.wide] at h), ?_⟩
    have hfr : ∃ σ1, (∀ x y, σ x y → σ1 x y) ∧ WR B w0 σ1 ι H0 w ∧ VRs σ1 ι args' us := by
      rcases hargs with ⟨rfl, rfl⟩ | hargs
      · exact ⟨σ, fun _ _ h => h, hs.wr, hus⟩
      · exact frzs_ok _ _ _ _ _ _ _ hs.wr hargs hus
    obtain ⟨σ1, l1, hw1, hus1⟩ := hfr
    have := hc B w0 σ1 ι w us hw1 (fun j hj => hs.fr j s.n (Nat.le_refl _) hj) hus1
    refine ⟨trivial, fun cs hroom => ?_⟩
    obtain ⟨e, w', fr, ⟨v, u, H', σ', ι', rfl, hpost, hv, hw, h1, h2, h3⟩, x⟩ := this.2 cs (room_wide _)
    refine ⟨.returned u, w', fr, ?_, x⟩
    exact hK _ _ _ _ _ (hk v H' hpost) ⟨σ', ι', hs.put hd' hv hw (fun x y h => h1 _ _ (l1 _ _ h)) h2 h3⟩
  | yld i args =>
    obtain ⟨us, l, n, hi, hrun, hus⟩ := hsat
    obtain ⟨post, hy, hk⟩ := hr
    obtain ⟨f, tmps, asg, body, hyl, hround⟩ := hy B w0 σ ι w us l n hs.wr (fun j hj => hs.fr j s.n (Nat.le_refl _) hj) hus hi
    rw [hrun, hyl]
    refine ⟨fun h => (by simp [En.F, Fence.wide] at h), trivial, fun c cs hroom => ?_⟩
    obtain ⟨e, w', ⟨v, u, H', σ', ι', rfl, hpost, hv, hw, h1, h2, h3⟩, x⟩ := hround.2 c cs (room_wide _)
    exact ⟨.returned u, w', hK _ _ _ _ _ (hk v H' hpost) ⟨σ', ι', hs.put hd' hv hw h1 h2 h3⟩, x⟩
  | fail => exact hr.elim
theorem yielded_of {σ : Facts} {ι : Where} {T : Tm} {ops : Array Oper} {j t : Nat} {c : Bool} (hT : TRel σ ι T a.tmps) (hj : (ops[j]?).bind (·.dst) = some t) (ht : tget T t = .tv (.bool c)) : yielded ops a.tmps j = some c := by
  have := hT t
  rw [ht] at this
  generalize hu : a.tmps.getD t undef = u at this
  cases this with
  | tv h =>
  cases h
  unfold yielded
  rw [hj]
  simp only [Option.bind_some]
  rw [Array.getD_eq_getD_getElem?] at hu
  cases he : a.tmps[t]? with
  | none => rw [he] at hu; simp [undef] at hu
  | some x => rw [he] at hu; simp at hu; rw [hu]
theorem yielded_none {σ : Facts} {ι : Where} {T : Tm} {ops : Array Oper} {j t : Nat} (hT : TRel σ ι T a.tmps) (hj : (ops[j]?).bind (·.dst) = some t) (ht : tget T t = .tup []) : yielded ops a.tmps j = none := by
  have := hT t
  rw [ht] at this
  generalize hu : a.tmps.getD t undef = u at this
  cases this with
  | tup vs us hl hv =>
  unfold yielded
  rw [hj]
  simp only [Option.bind_some]
  rw [Array.getD_eq_getD_getElem?] at hu
  cases he : a.tmps[t]? with
  | none => rfl
  | some x => rw [he] at hu; simp at hu; rw [hu]
theorem evs_sound {ops : Array Oper} {K : Tm → Hp → Nat → Prop} {Q : Exit → Act → World → Prop} (p : Id) (hK : ∀ T' H' n' a' w', K T' H' n' → SR E B w0 σ0 ι0 q ds ⟨T', H', p, n'⟩ a' w' → Q .normal a' w') :
    ∀ (os : List SOp) (is : List Nat) (T : Tm) (H : Hp) (n : Nat) (a : Act) (w : World), is.length = os.length → (∀ (k i : Nat) (so : SOp), is[k]? = some i → os[k]? = some so → ∃ o, ops[i]? = some o ∧ slimOp ops o = some so ∧ operOk E.nt o = true) →
      evs E.P p os T H n K → SR E B w0 σ0 ι0 q ds ⟨T, H, p, n⟩ a w → wpOpsIn E.F 0 E.P ops Q is a w := by
  intro os
  induction os with
  | nil =>
    intro is T H n a w hl _ hev hs
    have : is = [] := by simpa using hl
    subst this
    exact hK T H n a w hev hs
  | cons so os ih =>
    intro is T H n a w hl hops hev hs
    cases is with
    | nil => simp at hl
    | cons i is =>
      obtain ⟨o, ho, hso, hok⟩ := hops 0 i so rfl rfl
      have hl' : is.length = os.length := by simpa using hl
      have hops' : ∀ (k i : Nat) (so : SOp), is[k]? = some i → os[k]? = some so → ∃ o, ops[i]? = some o ∧ slimOp ops o = some so ∧ operOk E.nt o = true := fun k i so h1 h2 => hops (k + 1) i so (by simpa using h1) (by simpa using h2)
      simp only [wpOpsIn, ho]
      obtain ⟨σ, ι, hs'⟩ := hs
      have hop1 : opOk o = true := by simp only [operOk, Bool.and_eq_true] at hok; exact hok.1.1
      have hsat : Sat E.P (execOp a.eval o) w B w0 σ ι H (n :: p) (evOp E.P T H (n :: p) o.op) := evOp_sound hs'.wr hs'.tr (hs'.fr _ n (Nat.le_refl _) (List.suffix_refl _)) hop1
      have step : evr E.P p o.dst T H n (fun T' H' n' => evs E.P p os T' H' n' K) (evOp E.P T H (n :: p) o.op) → o.wpIn E.F 0 E.P a w (wpOpsIn E.F 0 E.P ops Q is) Q := by
        intro hr
        exact evr_sound hs' hok hsat (fun T' H' n' a' w' hk hsr => ih is T' H' n' a' w' hl' hops' hk hsr) hr
      unfold slimOp at hso
      split at hso
      · rename_i hg
        simp at hso; subst hso
        have hw : Region.wanted o (yielded ops a.tmps) = true := by simp [Region.wanted, hg]
        rw [if_pos hw]
        exact step hev
      · rename_i j b hg
        split at hso
        · rename_i t ht
          simp at hso; subst hso
          simp only [evs] at hev
          have hd' : ∀ t, o.dst = some t → t < E.nt := by
            intro t ht
            simp only [operOk, Bool.and_eq_true] at hok
            have := hok.1.2; rw [ht] at this; simpa using this
          have skip : evs E.P p os (tset o.dst (.tup []) T) H (n + 1) K → Region.wanted o (yielded ops a.tmps) = false → (if Region.wanted o (yielded ops a.tmps) = true then o.wpIn E.F 0 E.P a w (wpOpsIn E.F 0 E.P ops Q is) Q else (∀ f, o.about E.P w a.eval = some f → E.F.fn f) ∧ wpOpsIn E.F 0 E.P ops Q is (a.put o.dst undef) w) := by
            intro hev hw
            rw [hw, if_neg (by simp)]
            refine ⟨fun _ _ => trivial, ih is _ H (n + 1) _ w hl' hops' hev ?_⟩
            refine ⟨σ, ι, hs'.le, hs'.lei, hs'.out, hs'.wr, TRel.put hs'.tr (fun t e => by rw [hs'.nt]; exact hd' t e) (.tup [] [] rfl (fun j c u h _ => by simp at h)), ?_, hs'.qp, fun j k hk hj => hs'.fr j k (Nat.le_of_succ_le hk) hj, ?_, hs'.nk⟩
            · cases o.dst <;> simp [Act.put, hs'.nt]
            · have := hs'.df.same (tget_tset_d (v := .tup []) hd' hs'.nk)
              revert this
              cases o.dst <;> exact id
          split at hev
          · rename_i c hc
            have hy := yielded_of (ops := ops) hs'.tr ht hc
            by_cases hcb : c = b
            · have hw : Region.wanted o (yielded ops a.tmps) = true := by simp [Region.wanted, hg, hy, hcb]
              rw [if_pos hw]
              exact step (hev.1 hcb)
            · exact skip (hev.2 (by cases c <;> cases b <;> simp_all)) (by simp [Region.wanted, hg, hy, hcb])
          · rename_i hc
            have hy := yielded_none (ops := ops) hs'.tr ht hc
            exact skip hev (by simp [Region.wanted, hg, hy])
          · exact hev.elim
        · cases hso
theorem slims_get (ops : Array Oper) : ∀ (l : List Oper) (out : List SOp), slims ops l = some out → out.length = l.length ∧ ∀ (k : Nat) (y : SOp), out[k]? = some y → ∃ x, l[k]? = some x ∧ slimOp ops x = some y := by
  intro l
  induction l with
  | nil => intro out h; simp [slims] at h; subst h; exact ⟨rfl, fun k y h => by simp at h⟩
  | cons x l ih =>
    intro out h
    simp only [slims] at h
    cases hx : slimOp ops x with
    | none => rw [hx] at h; simp at h
    | some y =>
      cases hm : slims ops l with
      | none => rw [hx, hm] at h; simp at h
      | some o =>
        rw [hx, hm] at h; simp at h; subst h
        obtain ⟨h1, h2⟩ := ih o hm
        refine ⟨by simp [h1], fun k y' hk => ?_⟩
        cases k with
        | zero => simp at hk; subst hk; exact ⟨x, rfl, hx⟩
        | succ k => simp at hk; obtain ⟨x', h3, h4⟩ := h2 k y' hk; exact ⟨x', by simpa using h3, h4⟩
/-- A region that does not draw its order. -/
theorem at_region {id : Nat} {ops : Array Oper} {os : List SOp} {Q : Exit → St → Prop} {T : Tm} {H : Hp} {p : Id} {n : Nat} (hsl : slim E.nt ops = some os) (h : evs E.P p os T H n (fun T' H' n' => Q .normal ⟨T', H', p, n'⟩)) : AT E (.region id ops false) Q ⟨T, H, p, n⟩ := by
  intro B w0 σ0 ι0 q ds a w hs
  unfold slim at hsl
  split at hsl
  · rename_i hall
    obtain ⟨h1, h2⟩ := slims_get _ _ _ hsl
    refine wpIn_region (evs_sound (q := q) p (fun T' H' n' a' w' hk hsr => ⟨_, hk, hsr⟩) os (List.range ops.size) T H n a w (by simp [h1]) (fun k i so hi hso => ?_) h hs)
    obtain ⟨o, ho, hsl⟩ := h2 k so hso
    have hk : k < ops.size := by
      have := (List.getElem?_eq_some_iff.1 ho).1; simpa using this
    rw [List.getElem?_range hk] at hi
    cases hi
    refine ⟨o, by simpa using ho, hsl, ?_⟩
    rw [List.all_eq_true] at hall
    exact hall o (List.mem_of_getElem? ho)
  · cases hsl
end
end Go.Proofs.Ythmimpiegnnmdaa
