/- The rules of the triple; from a body's triple to the function's contract. -/
import Derived.Test.YthmimpiegnnmdaaAbs10
import Derived.RangeFuncRecord
namespace Go.Proofs.Ythmimpiegnnmdaa
open Go.RowKit
set_option linter.unusedSimpArgs false
set_option linter.unusedVariables false

def thenQ (E : En) (c : Code) (Q : Exit → St → Prop) : Exit → St → Prop
  | .normal, s => AT E c Q s
  | e, s => Q e s
def blockQ (id : Nat) (Q : Exit → St → Prop) : Exit → St → Prop
  | .exit id', s => if id' = id then Q .normal s else Q (.exit id') s
  | e, s => Q e s
section
variable {E : En} {Q Q' : Exit → St → Prop} {s s' : St}
theorem at_skip (h : Q .normal s) : AT E .skip Q s := fun _ _ _ _ _ _ _ _ hs => wpIn_skip ⟨s, h, hs⟩
theorem at_exit {id : Nat} (h : Q (.exit id) s) : AT E (.exit id) Q s := fun _ _ _ _ _ _ _ _ hs => wpIn_exit ⟨s, h, hs⟩
theorem at_ret (h : Q .ret s) : AT E .ret Q s := fun _ _ _ _ _ _ _ _ hs => wpIn_ret ⟨s, h, hs⟩
theorem at_mono {c : Code} (h : AT E c Q' s) (hq : ∀ e s, Q' e s → Q e s) : AT E c Q s := fun B w0 σ0 ι0 q ds a w hs =>
  wpIn_mono (h B w0 σ0 ι0 q ds a w hs) fun e a' w' ⟨s', h1, h2⟩ => ⟨s', hq e s' h1, h2⟩
theorem at_seq {c d : Code} (h : AT E c (thenQ E d Q) s) : AT E (.seq c d) Q s := by
  intro B w0 σ0 ι0 q ds a w hs
  refine wpIn_seq (wpIn_mono (h B w0 σ0 ι0 q ds a w hs) fun e a' w' ⟨s', h1, h2⟩ => ?_)
  cases e <;> first | exact ⟨s', h1, h2⟩ | exact h1 B w0 σ0 ι0 q ds a' w' h2
theorem at_block {id : Nat} {c : Code} (h : AT E c (blockQ id Q) s) : AT E (.block id c) Q s := by
  intro B w0 σ0 ι0 q ds a w hs
  refine wpIn_block (wpIn_mono (h B w0 σ0 ι0 q ds a w hs) fun e a' w' ⟨s', h1, h2⟩ => ?_)
  cases e with
  | exit id' =>
    simp only [blockQ] at h1
    simp only [Exit.inBlock]
    split
    · rename_i e; rw [if_pos e] at h1; exact ⟨s', h1, h2⟩
    · rename_i e; rw [if_neg e] at h1; exact ⟨s', h1, h2⟩
  | _ => exact ⟨s', h1, h2⟩
theorem at_cond {c : Operand} {x y : Code} {b : Bool} (hc : evo s.T c = .tv (.bool b)) (hok : opdOk c = true) (h1 : b = true → AT E x Q s) (h2 : b = false → AT E y Q s) : AT E (.cond c x y) Q s := by
  intro B w0 σ0 ι0 q ds a w hs
  have hs' := hs
  obtain ⟨σ, ι, hsr⟩ := hs'
  have hv := evo_ok hsr.tr c hok
  rw [hc] at hv
  have he : a.eval c = .bool b := by
    generalize a.eval c = u at hv
    cases hv with | tv hv => cases hv; rfl
  refine wpIn_cond he ?_
  cases b
  · exact h2 rfl B w0 σ0 ι0 q ds a w hs
  · exact h1 rfl B w0 σ0 ι0 q ds a w hs
/-- A told state that says less, or that says the same of more. -/
def Gh (s s' : St) : Prop := ∀ E B w0 σ0 ι0 q ds a w, SR E B w0 σ0 ι0 q ds s a w → SR E B w0 σ0 ι0 q ds s' a w
theorem at_pre {c : Code} (h : Gh s s') (hc : AT E c Q s') : AT E c Q s := fun B w0 σ0 ι0 q ds a w hs => hc B w0 σ0 ι0 q ds a w (h E B w0 σ0 ι0 q ds a w hs)
theorem at_post {c : Code} (h : AT E c Q' s) (hq : ∀ e s, Q' e s → ∃ s', Gh s s' ∧ Q e s') : AT E c Q s := fun B w0 σ0 ι0 q ds a w hs =>
  wpIn_mono (h B w0 σ0 ι0 q ds a w hs) fun e a' w' ⟨s', h1, h2⟩ => let ⟨s'', g, h3⟩ := hq e s' h1; ⟨s'', h3, g E B w0 σ0 ι0 q ds a' w' h2⟩
/-- Something that a told state lets know. -/
theorem at_fact {c : Code} (φ : Prop) (hφ : ∀ B w0 σ0 ι0 q ds a w, SR E B w0 σ0 ι0 q ds s a w → φ) (h : φ → AT E c Q s) : AT E c Q s :=
  fun B w0 σ0 ι0 q ds a w hs => h (hφ B w0 σ0 ι0 q ds a w hs) B w0 σ0 ι0 q ds a w hs
theorem Gh.refl (s : St) : Gh s s := fun _ _ _ _ _ _ _ _ _ h => h
theorem Gh.trans {s1 s2 s3 : St} (h : Gh s1 s2) (k : Gh s2 s3) : Gh s1 s3 := fun E B w0 σ0 ι0 q ds a w hs => k E B w0 σ0 ι0 q ds a w (h E B w0 σ0 ι0 q ds a w hs)
/-- Some temporaries and blocks forgotten. -/
theorem Gh.less {T T' : Tm} {H H' : Hp} {p : Id} {n n' : Nat} (hT : ∀ t, tget T' t = tget T t ∨ tget T' t = .any) (hd : tget T' 1000000 = tget T 1000000) (hH : ∀ id o, hget H' id = some o → hget H id = some o) (hn : n ≤ n') : Gh ⟨T, H, p, n⟩ ⟨T', H', p, n'⟩ := by
  rintro E B w0 σ0 ι0 q ds a w ⟨σ, ι, hs⟩
  refine ⟨σ, ι, hs.le, hs.lei, hs.out, hs.wr.weaken hH, fun t => ?_, hs.nt, hs.qp, fun j k hk hj => hs.fr j k (Nat.le_trans hn hk) hj, hs.df.same hd, hs.nk⟩
  rcases hT t with h | h
  · rw [h]; exact hs.tr t
  · rw [h]; exact .any _
/-- The slice of one's own in a temporary, read as a tree from now on. -/
theorem Gh.freeze {T : Tm} {H H' : Hp} {p : Id} {n : Nat} (t : Nat) {v' : AV} (ht : t ≠ 1000000) (h : frzV H (tget T t) = some (v', H')) : Gh ⟨T, H, p, n⟩ ⟨(t, v') :: T, H', p, n⟩ := by
  rintro E B w0 σ0 ι0 q ds a w ⟨σ, ι, hs⟩
  obtain ⟨σ', l, hw, hv⟩ := frzV_ok hs.wr h
  refine ⟨σ', ι, fun x y hx => l _ _ (hs.le x y hx), hs.lei, hs.out, hw, fun k => ?_, hs.nt, hs.qp, hs.fr, (hs.df.mono l (fun _ _ h => h)).same (by simp [tget, ht]), hs.nk⟩
  simp only [tget]
  split
  · rename_i e; subst e; exact hv _ (hs.tr t)
  · exact (hs.tr k).mono l (fun _ _ h => h)
theorem tr_len {σ : Facts} {ι : Where} {sz : Nat} {rows : List (List TV)} {u : Value} (h : VR σ ι (.tv (.sli sz rows)) u) : rows.length ≤ 9223372036854775807 := by
  cases h with | tv h => cases h; assumption
theorem tr_str {σ : Facts} {ι : Where} {st : ByteArray} {u : Value} (h : VR σ ι (.tv (.str st)) u) : st.size ≤ 9223372036854775807 := by
  cases h with | tv h => cases h; assumption
theorem at_len {c : Code} (t : Nat) {sz : Nat} {rows : List (List TV)} (ht : tget s.T t = .tv (.sli sz rows)) (h : rows.length ≤ 9223372036854775807 → AT E c Q s) : AT E c Q s :=
  at_fact _ (fun _ _ _ _ _ _ _ _ ⟨_, _, hs⟩ => by have := hs.tr t; rw [ht] at this; exact tr_len this) h
theorem at_strlen {c : Code} (t : Nat) {st : ByteArray} (ht : tget s.T t = .tv (.str st)) (h : st.size ≤ 9223372036854775807 → AT E c Q s) : AT E c Q s :=
  at_fact _ (fun _ _ _ _ _ _ _ _ ⟨_, _, hs⟩ => by have := hs.tr t; rw [ht] at this; exact tr_str this) h
/-- A loop: I k T H m: k is left to do; the blocks made in the rounds have ids under n :: p. -/
theorem at_loop {body : Code} {T : Tm} {H : Hp} {p : Id} {n : Nat} (I : Nat → Tm → Hp → Nat → Prop) (k0 : Nat) (h0 : I k0 T H 0)
    (hb : ∀ k T' H' m, I k T' H' m → AT E body (fun e s' => match e with
      | .normal => s'.p = n :: p ∧ ∃ k', k' < k ∧ I k' s'.T s'.H s'.n
      | e => Q e ⟨s'.T, s'.H, p, n + 1⟩) ⟨T', H', n :: p, m⟩) : AT E (.loop body) Q ⟨T, H, p, n⟩ := by
  rintro B w0 σ0 ι0 q ds a w ⟨σ, ι, hs⟩
  intro b k cs hro hbf hr
  have back : ∀ s' a' w', SR E B w0 σ ι (n :: p) ds s' a' w' → SR E B w0 σ0 ι0 q ds ⟨s'.T, s'.H, p, n + 1⟩ a' w' := by
    rintro s' a' w' ⟨σ', ι', hs'⟩
    refine ⟨σ', ι', fun x y h => hs'.le _ _ (hs.le x y h), fun j y h => hs'.lei _ _ (hs.lei j y h), fun j hj => ?_, hs'.wr, hs'.tr, hs'.nt, hs.qp, fun j k hk hj => ?_, hs'.df, hs'.nk⟩
    · rw [hs'.out j (fun h => hj ((hs.qp.trans (List.suffix_cons _ _)).trans h))]; exact hs.out j hj
    · have hk' : n + 1 ≤ k := hk
      rw [hs'.out j (fun h => by have := suffix_cons_ne hj h; omega)]
      exact hs.fr j k (by show n ≤ k; omega) hj
  have key : ∀ i T' H' m a w, I i T' H' m → SR E B w0 σ ι (n :: p) ds ⟨T', H', n :: p, m⟩ a w →
      ∃ e a' w', (∃ s', Q e s' ∧ SR E B w0 σ0 ι0 q ds s' a' w') ∧ ArrivesIn (Machine.fenced E.P E.F) E.P (lone (b.atR a (.code body :: .inLoop body :: k)) cs w) b k cs e a' w' := by
    intro i
    induction i using Nat.strongRecOn with
    | _ i ih =>
      intro T' H' m a w hI hsr
      obtain ⟨e, a₁, w₁, ⟨s', hq, hsr'⟩, harr⟩ := hb i T' H' m hI B w0 σ ι (n :: p) ds a w hsr b (.inLoop body :: k) cs hro hbf hr
      cases e with
      | normal =>
        obtain ⟨hp, k', hlt, hI'⟩ := hq
        obtain ⟨T1, H1, p1, m1⟩ := s'
        simp only at hp
        subst hp
        obtain ⟨e₂, a₂, w₂, hq₂, harr₂⟩ := ih k' hlt T1 H1 m1 a₁ w₁ hI' hsr'
        exact ⟨e₂, a₂, w₂, hq₂, .of_steps (StepsIn.trans harr (.one (fenced_calm hbf hr rfl) stepR_inLoop)) harr₂⟩
      | exit id => exact ⟨_, a₁, w₁, ⟨_, hq, back s' a₁ w₁ hsr'⟩, .pass (x := .inLoop body) rfl (fun _ _ => .inl (by simp)) harr⟩
      | goto l => exact ⟨_, a₁, w₁, ⟨_, hq, back s' a₁ w₁ hsr'⟩, .pass (x := .inLoop body) rfl (fun _ _ => .inl (by simp)) harr⟩
      | ret => exact ⟨_, a₁, w₁, ⟨_, hq, back s' a₁ w₁ hsr'⟩, .pass (x := .inLoop body) rfl (fun _ _ => .inl (by simp)) harr⟩
      | panic ch => exact ⟨_, a₁, w₁, ⟨_, hq, back s' a₁ w₁ hsr'⟩, .pass (x := .inLoop body) rfl (fun _ _ => .inl (by simp)) harr⟩
      | outgrown => exact ⟨_, a₁, w₁, ⟨_, hq, back s' a₁ w₁ hsr'⟩, .pass (x := .inLoop body) rfl (fun _ _ => .inl (by simp)) harr⟩
  have hstart : SR E B w0 σ ι (n :: p) ds ⟨T, H, n :: p, 0⟩ a w :=
    ⟨σ, ι, fun _ _ h => h, fun _ _ h => h, fun _ _ => rfl, hs.wr, hs.tr, hs.nt, List.suffix_refl _, fun j k _ hj => hs.fr j n (Nat.le_refl _) ((List.suffix_cons _ _).trans hj), hs.df, hs.nk⟩
  obtain ⟨e, a', w', hq, harr⟩ := key k0 T H 0 a w h0 hstart
  exact ⟨e, a', w', hq, .of_steps (.one (fenced_calm hbf hr rfl) stepR_loop) harr⟩

/-! ### Functions -/
theorem WR.putObj {B : Base} {w0 w : World} {σ : Facts} {ι : Where} {H : Hp} (h : WR B w0 σ ι H w) {id : Id} {o : AO} {b n : Nat} (hid : hget H id = some o) (hne : ∀ cells, o ≠ .row cells true) (hi : ι id = some (some (b, n))) (o' : AO) {x : Obj} (ho : OR σ ι o' n x) :
    WR B w0 σ ι (hset H id o') (w.putObj b x) := by
  have hlt := h.lt hid hi
  refine h.write hid hi o' (World.putObj_heap_same hlt) ho (fun k hk => World.putObj_heap_other hk) World.putObj_size rfl rfl rfl (fun a v hs hb => ?_)
  obtain ⟨cells, he, _⟩ := h.stab a v hs id o b n hid hi hb
  exact absurd he (hne cells)
/-- What an activation that leaves finds of its deferred calls: here those of ranges over functions, which have none. -/
def leaveK : List AV → Hp → (Hp → Prop) → Prop
  | [], H, K => K H
  | .ptr id _ :: r, H, K => hget H id = some .dfr ∧ leaveK r (hset H id .gone) K
  | _ :: _, _, _ => False
def leaveD (v : AV) (H : Hp) (K : Hp → Prop) : Prop := match v with
  | .any => K H
  | .ds l => leaveK l H K
  | _ => False
theorem leaveK_mono {K K' : Hp → Prop} (hk : ∀ H, K H → K' H) : ∀ {l : List AV} {H : Hp}, leaveK l H K → leaveK l H K' := by
  intro l
  induction l with
  | nil => intro H h; exact hk _ h
  | cons v l ih =>
    intro H h
    cases v with
    | ptr id off => exact ⟨h.1, ih h.2⟩
    | _ => exact h.elim
theorem leaveD_mono {K K' : Hp → Prop} (hk : ∀ H, K H → K' H) {v : AV} {H : Hp} (h : leaveD v H K) : leaveD v H K' := by
  cases v with
  | any => exact hk _ h
  | ds l => exact leaveK_mono hk h
  | _ => exact h.elim
theorem leaveK_ok {P : Program} {fn : Func} {tmps : Array Value} {R : Ending → World → Prop} {B : Base} {w0 : World} {σ : Facts} {ι : Where} {K : Hp → Prop}
    (hend : ∀ H w, WR B w0 σ ι H w → K H → ∃ v, (results fn tmps).run P w = .ok v w ∧ R (.returned v) w) : ∀ (l : List AV) (ms : List Deferred) (H : Hp) (w : World), WR B w0 σ ι H w →
      ms.length = l.length → (∀ (j : Nat) v d, l[j]? = some v → ms[j]? = some d → DV σ ι v d) → leaveK l H K → LeavesInM Fence.wide 0 P fn tmps R ms .returning w := by
  intro l
  induction l with
  | nil =>
    intro ms H w hw hl hd h
    have : ms = [] := by simpa using hl
    subst this
    exact hend H w hw h
  | cons v l ih =>
    intro ms H w hw hl hd h
    cases ms with
    | nil => simp at hl
    | cons d ms =>
      cases v with
      | ptr id off =>
        obtain ⟨b, n, hi, he⟩ := hd 0 _ d rfl rfl
        subst he
        obtain ⟨hid, hrest⟩ := h
        obtain ⟨_, obj, hobj, hor⟩ := hw.obj id .dfr b n hid hi
        have hor' : obj = .deferred (some []) := hor
        subst hor'
        refine ⟨by simp, .inl ⟨b, _, rfl, run_takeDeferred hobj, ih ms _ _ (hw.putObj hid (fun _ h => by cases h) hi .gone trivial) (by simpa using hl) (fun j v d h1 h2 => hd (j + 1) v d (by simpa using h1) (by simpa using h2)) hrest⟩⟩
      | _ => exact h.elim
def argT : List AV → Nat → Tm
  | [], _ => []
  | v :: r, k => (k, v) :: argT r (k + 1)
def resK (P : Program) (T : Tm) (H : Hp) : List ResultVar → List AV → (List AV → Prop) → Prop
  | [], acc, K => K acc.reverse
  | .tmp t :: r, acc, K => resK P T H r (tget T t :: acc) K
  | .cell a t :: r, acc, K => match evLoad P H t (tget T a) with
    | .val v _ => resK P T H r (v :: acc) K
    | _ => False
def retV : List AV → AV
  | [v] => v
  | vs => .tup vs
theorem argT_get : ∀ (vs : List AV) (k t : Nat), tget (argT vs k) t = if k ≤ t then (vs[t - k]?).getD .any else .any := by
  intro vs
  induction vs with
  | nil => intro k t; simp [argT, tget]
  | cons v vs ih =>
    intro k t
    simp only [argT, tget, ih]
    by_cases e : k = t
    · subst e; simp
    · rw [if_neg e]
      by_cases h : k + 1 ≤ t
      · rw [if_pos h, if_pos (by omega)]
        have : t - k = (t - (k + 1)) + 1 := by omega
        rw [this]; simp
      · rw [if_neg h, if_neg (by omega)]
theorem args_rel {σ : Facts} {ι : Where} {vs : List AV} {us : List Value} (h : VRs σ ι vs us) (m : Nat) : TRel σ ι (argT vs 0) (us.toArray ++ Array.replicate m undef) := by
  intro t
  rw [argT_get]
  simp only [Nat.zero_le, if_true, Nat.sub_zero]
  cases hv : vs[t]? with
  | none => exact .any _
  | some v =>
    obtain ⟨u, h1, h2⟩ := h.get hv
    have hlt := (List.getElem?_eq_some_iff.1 h1).1
    simp only [Option.getD_some]
    have : (us.toArray ++ Array.replicate m undef).getD t undef = u := by
      rw [Array.getD_eq_getD_getElem?, Array.getElem?_append_left (by simpa using hlt)]
      simp [h1]
    rw [this]; exact h2
theorem resK_ok {B : Base} {w0 w : World} {σ : Facts} {ι : Where} {P : Program} {T : Tm} {H : Hp} {tmps : Array Value} (hw : WR B w0 σ ι H w) (hT : TRel σ ι T tmps) : ∀ (rs : List ResultVar) (acc : List AV) (uacc : List Value) (K : List AV → Prop),
    VRs σ ι acc.reverse uacc → resK P T H rs acc K → ∃ vs us, K vs ∧ VRs σ ι vs (uacc ++ us) ∧
      (rs.mapM (fun r => match r with | .tmp t => pure (tmps.getD t undef) | .cell a t => do loadVar t (← asAddr (tmps.getD a undef)) : ResultVar → Sem Value)).run P w = .ok us w := by
  intro rs
  induction rs with
  | nil => intro acc uacc K ha h; exact ⟨acc.reverse, [], h, by simpa using ha, by simp⟩
  | cons r rs ih =>
    intro acc uacc K ha h
    cases r with
    | tmp t =>
      simp only [resK] at h
      obtain ⟨vs, us, h1, h2, h3⟩ := ih _ (uacc ++ [tmps.getD t undef]) K (by
        rw [List.reverse_cons]; exact ha.append (VRs.cons (hT t) (VRs.nil _ _))) h
      refine ⟨vs, tmps.getD t undef :: us, h1, by simpa using h2, ?_⟩
      simp only [List.mapM_cons, Sem.run_bind, Sem.run_pure, Result.andThen_ok, h3]
    | cell a t =>
      simp only [resK] at h
      split at h
      · rename_i v e hl
        have hsat := load_ok (P := P) (t := t) hw (hT a)
        rw [hl] at hsat
        have he : e = .no := by cases e <;> first | rfl | exact hsat.elim
        subst he
        obtain ⟨u, hload, hv'⟩ := hsat
        have had : ∃ ad, tmps.getD a undef = .pointer (some ad) := by
          cases hu : tmps.getD a undef with
          | pointer ad => cases ad with
            | some ad => exact ⟨ad, rfl⟩
            | none => rw [hu] at hload; simp [Instr.loadAt, Instr.sureAddr] at hload
          | _ => rw [hu] at hload; simp [Instr.loadAt, Instr.sureAddr] at hload
        obtain ⟨ad, had⟩ := had
        obtain ⟨vs, us, h1, h2, h3⟩ := ih _ (uacc ++ [u]) K (by
          rw [List.reverse_cons]; exact ha.append (VRs.cons hv' (VRs.nil _ _))) h
        refine ⟨vs, u :: us, h1, by simpa using h2, ?_⟩
        have : (do loadVar t (← asAddr (tmps.getD a undef)) : Sem Value).run P w = .ok u w := by
          rw [had] at hload ⊢
          simpa [Instr.loadAt, Instr.sureAddr, asAddr] using hload
        simp only [List.mapM_cons, Sem.run_bind, this, Result.andThen_ok, h3, Sem.run_pure]
      · exact h.elim
theorem resK_mono {P : Program} {T : Tm} {H : Hp} {K K' : List AV → Prop} (hk : ∀ vs, K vs → K' vs) : ∀ {rs : List ResultVar} {acc : List AV}, resK P T H rs acc K → resK P T H rs acc K' := by
  intro rs
  induction rs with
  | nil => intro acc h; exact hk _ h
  | cons r rs ih =>
    intro acc h
    cases r with
    | tmp t => exact ih h
    | cell a t =>
      simp only [resK] at h ⊢
      split at h
      · exact ih h
      · exact h.elim
/-- A function's contract out of its body's triple. -/
theorem call_of_at {P : Program} {f : FuncId} {fn : Func} {c : Code} {args : List AV} {H : Hp} {q : Id} {post : AV → Hp → Prop} (hf : P.funcs[f]? = some fn) (hb : fn.body = some c) (hn : args.length ≤ fn.ntmps ∧ fn.ntmps ≤ 1000000)
    (h : AT ⟨P, none, fn.ntmps⟩ c (fun e s => (e = .normal ∨ e = .ret) ∧ leaveD (tget s.T 1000000) s.H fun H' => resK P s.T H' fn.results.toList [] (fun vs => post (retV vs) H')) ⟨argT args 0, H, q, 0⟩) : CallOK P f args H q post := by
  intro B w0 σ ι w us hw hq hus
  refine callsIn_of_wp_marks hf hb trivial ?_ rfl
  have hsz : us.toArray.size = args.length := by simp [hus.1]
  have hany : tget (argT args 0) 1000000 = .any := by
    rw [argT_get]
    simp only [Nat.zero_le, if_true]
    rw [List.getElem?_eq_none (by omega)]; rfl
  have hstart : SR ⟨P, none, fn.ntmps⟩ B w0 σ ι q [] ⟨argT args 0, H, q, 0⟩ { tmps := us.toArray ++ Array.replicate (fn.ntmps - us.toArray.size) undef, defers := [] } w :=
    ⟨σ, ι, fun _ _ h => h, fun _ _ h => h, fun _ _ => rfl, hw, args_rel hus _, by simp [hus.1]; omega, List.suffix_refl _, fun j k _ hj => hq j ((List.suffix_cons _ _).trans hj), ⟨[], rfl, by rw [hany]; rfl⟩, hn.2⟩
  refine wpIn_mono (h B w0 σ ι q [] _ w hstart) fun e a' w' ⟨s', hq', σ', ι', hs'⟩ => ?_
  obtain ⟨he, hr⟩ := hq'
  obtain ⟨ms, hms, hdr⟩ := hs'.df
  simp only [List.append_nil] at hms
  have hend : ∀ H1 w1, WR B w0 σ' ι' H1 w1 → resK P s'.T H1 fn.results.toList [] (fun vs => post (retV vs) H1) →
      ∃ v, (results fn a'.tmps).run P w1 = .ok v w1 ∧ ∃ v1 u H' σ' ι', Ending.returned v = .returned u ∧ post v1 H' ∧ VR σ' ι' v1 u ∧ WR B w0 σ' ι' H' w1 ∧ (∀ x y, σ x y → σ' x y) ∧ (∀ j y, ι j = some y → ι' j = some y) ∧ ∀ j, ¬ q <:+ j → ι' j = ι j := by
    intro H1 w1 hw1 hr
    obtain ⟨vs, uvs, hp, hv, hm⟩ := resK_ok (P := P) hw1 hs'.tr _ [] [] _ (VRs.nil _ _) hr
    simp only [List.nil_append] at hv
    have hres : (results fn a'.tmps).run P w1 = .ok (if h : uvs.length = 1 then uvs[0] else .tuple uvs.toArray) w1 := by
      have e1 : (fn.results.mapM (fun r => match r with | .tmp t => pure (a'.tmps.getD t undef) | .cell a t => do loadVar t (← asAddr (a'.tmps.getD a undef)) : ResultVar → Sem Value)).run P w1 = .ok uvs.toArray w1 := by
        rw [Array.mapM_eq_mapM_toList]
        simp only [Sem.run_map, hm, Result.andThen_ok]
      have e2 : (results fn a'.tmps).run P w1 = ((fn.results.mapM (fun r => match r with | .tmp t => pure (a'.tmps.getD t undef) | .cell a t => do loadVar t (← asAddr (a'.tmps.getD a undef)) : ResultVar → Sem Value)).run P w1).andThen fun vs w' => .ok (if h : vs.size = 1 then vs[0] else .tuple vs) w' := Sem.run_bind P w1 _ _
      rw [e2, e1]
      simp
    have hvr : VR σ' ι' (retV vs) (if h : uvs.length = 1 then uvs[0] else .tuple uvs.toArray) := by
      unfold retV
      split
      · rename_i v
        have h1 : uvs.length = 1 := hv.1
        rw [dif_pos h1]
        exact hv.2 0 v _ rfl (by simp [h1])
      · rename_i hne
        have h1 : ¬ uvs.length = 1 := by
          intro h1
          have h2 : vs.length = 1 := by rw [← hv.1]; exact h1
          match vs, h2 with
          | [v], _ => exact hne v rfl
        rw [dif_neg h1]
        exact .tup _ _ hv.1 hv.2
    exact ⟨_, hres, _, _, _, σ', ι', rfl, hp, hvr, hw1, hs'.le, hs'.lei, hs'.out⟩
  have fin : LeavesInM Fence.wide 0 P fn a'.tmps (fun e w' => ∃ v u H' σ' ι', e = .returned u ∧ post v H' ∧ VR σ' ι' v u ∧ WR B w0 σ' ι' H' w' ∧
      (∀ x y, σ x y → σ' x y) ∧ (∀ j y, ι j = some y → ι' j = some y) ∧ ∀ j, ¬ q <:+ j → ι' j = ι j) a'.defers .returning w' := by
    rw [hms]
    generalize tget s'.T 1000000 = dv at hdr hr
    cases dv with
    | any =>
      have : ms = [] := hdr
      subst this
      exact hend _ _ hs'.wr hr
    | ds l => exact leaveK_ok hend l ms _ _ hs'.wr hdr.1 hdr.2 hr
    | _ => exact hdr.elim
  rcases he with rfl | rfl
  · exact fin
  · exact fin
theorem pure_of_at {P : Program} {f : FuncId} {fn : Func} {c : Code} {args : List AV} {v : AV} (hf : P.funcs[f]? = some fn) (hb : fn.body = some c) (hn : args.length ≤ fn.ntmps ∧ fn.ntmps ≤ 1000000)
    (h : ∀ H q, AT ⟨P, none, fn.ntmps⟩ c (fun e s => (e = .normal ∨ e = .ret) ∧ leaveD (tget s.T 1000000) s.H fun H' => resK P s.T H' fn.results.toList [] (fun vs => retV vs = v) ∧ ∀ id o, hget H id = some o → hget H' id = some o) ⟨argT args 0, H, q, 0⟩) : PureCall P f args v := by
  intro H q B w0 σ ι w us hw hq hus
  have hc := call_of_at (H := H) (q := q) (post := fun v' H' => v' = v ∧ ∀ id o, hget H id = some o → hget H' id = some o) hf hb hn (at_mono (h H q) fun e s ⟨h1, h2⟩ => ⟨h1, leaveD_mono (fun H' h3 => resK_mono (fun vs hv => ⟨hv, h3.2⟩) h3.1) h2⟩)
  refine ⟨trivial, fun cs hr => ?_⟩
  obtain ⟨e, w', fr, ⟨v', u, H', σ', ι', he, ⟨hv, hH⟩, hvr, hwr, rest⟩, x⟩ := (hc B w0 σ ι w us hw hq hus).2 cs hr
  exact ⟨e, w', fr, ⟨v', u, H, σ', ι', he, ⟨hv, rfl⟩, hvr, hwr.weaken hH, rest⟩, x⟩

/-! ### The rules as they are used -/
def tkeep (l : List Nat) (T : Tm) : Tm := (1000000, tget T 1000000) :: l.map fun t => (t, tget T t)
theorem tget_tkeep (l : List Nat) (T : Tm) (t : Nat) : tget (tkeep l T) t = tget T t ∨ tget (tkeep l T) t = .any := by
  simp only [tkeep, tget]
  split
  · rename_i e; subst e; exact .inl rfl
  · induction l with
    | nil => exact .inr rfl
    | cons k l ih =>
      simp only [List.map_cons, tget]
      split
      · rename_i e; subst e; exact .inl rfl
      · exact ih
theorem Gh.keep (l : List Nat) (T : Tm) (H : Hp) (p : Id) (n : Nat) : Gh ⟨T, H, p, n⟩ ⟨tkeep l T, H, p, n⟩ := Gh.less (tget_tkeep l T) rfl (fun _ _ h => h) (Nat.le_refl _)
theorem evs_mono {P : Program} {p : Id} {K K' : Tm → Hp → Nat → Prop} (hk : ∀ T H n, K T H n → K' T H n) : ∀ {os : List SOp} {T : Tm} {H : Hp} {n : Nat}, evs P p os T H n K → evs P p os T H n K' := by
  have evr_mono : ∀ {r : Res} {d : Option Nat} {T : Tm} {H : Hp} {n : Nat} {K K' : Tm → Hp → Nat → Prop}, (∀ T H n, K T H n → K' T H n) → evr P p d T H n K r → evr P p d T H n K' r := by
    intro r
    induction r with
    | val v e => intro d T H n K K' hk h; exact hk _ _ _ h
    | need c r ih => intro d T H n K K' hk h; exact ⟨h.1, ih hk h.2⟩
    | call f args => intro d T H n K K' hk h; obtain ⟨a, H0, h1, post, h2, h3⟩ := h; exact ⟨a, H0, h1, post, h2, fun v H' hp => hk _ _ _ (h3 v H' hp)⟩
    | yld i args => intro d T H n K K' hk h; obtain ⟨post, h1, h2⟩ := h; exact ⟨post, h1, fun v H' hp => hk _ _ _ (h2 v H' hp)⟩
    | fail => intro d T H n K K' hk h; exact h
  intro os
  induction os with
  | nil => intro T H n h; exact hk _ _ _ h
  | cons o os ih =>
    intro T H n h
    obtain ⟨d, op, g⟩ := o
    cases g with
    | none => exact evr_mono (fun T H n h => ih h) h
    | some tb =>
      obtain ⟨t, b⟩ := tb
      simp only [evs] at h ⊢
      split at h
      · exact ⟨fun e => evr_mono (fun T H n h => ih h) (h.1 e), fun e => ih (h.2 e)⟩
      · exact ih h
      · exact h.elim
/-- A region and what follows; l: the temporaries that are read later. -/
theorem at_reg {E : En} {Q : Exit → St → Prop} {id : Nat} {ops : Array Oper} {d : Code} {os : List SOp} {T : Tm} {H : Hp} {p : Id} {n : Nat} (l : List Nat) (hsl : slim E.nt ops = some os)
    (h : ∀ K : Tm → Hp → Nat → Prop, (∀ T' H' n', AT E d Q ⟨T', H', p, n'⟩ → K T' H' n') → evs E.P p os T H n (fun T' H' n' => K (tkeep l T') H' n')) : AT E (.seq (.region id ops false) d) Q ⟨T, H, p, n⟩ :=
  at_seq (at_region hsl (evs_mono (fun _ _ _ hk => at_pre (Gh.keep l _ _ _ _) hk) (h (fun T' H' n' => AT E d Q ⟨T', H', p, n'⟩) (fun _ _ _ h => h))))
/-- A region at the end of a piece of code. -/
theorem at_regl {E : En} {Q : Exit → St → Prop} {id : Nat} {ops : Array Oper} {os : List SOp} {T : Tm} {H : Hp} {p : Id} {n : Nat} (l : List Nat) (hsl : slim E.nt ops = some os)
    (h : ∀ K : Tm → Hp → Nat → Prop, (∀ T' H' n', Q .normal ⟨T', H', p, n'⟩ → K T' H' n') → evs E.P p os T H n (fun T' H' n' => K (tkeep l T') H' n')) : AT E (.region id ops false) Q ⟨T, H, p, n⟩ :=
  at_post (Q' := fun e s => e = .normal ∧ ∃ T' H' n', s = ⟨T', H', p, n'⟩ ∧ Q .normal ⟨tkeep l T', H', p, n'⟩) (at_region hsl (evs_mono (fun T' H' n' hk => ⟨rfl, T', H', n', rfl, hk⟩) (h (fun T' H' n' => Q .normal ⟨T', H', p, n'⟩) (fun _ _ _ h => h))))
    (fun e s ⟨he, T', H', n', hs, hq⟩ => ⟨⟨tkeep l T', H', p, n'⟩, by subst hs; exact Gh.keep l _ _ _ _, by subst he; exact hq⟩)
end
end Go.Proofs.Ythmimpiegnnmdaa
