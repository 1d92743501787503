/- A region that draws its order does, in every order, what the evaluation in the order of the text tells. -/
import Derived.Test.YthmimpiegnnmdaaAbs12
namespace Go.Proofs.Ythmimpiegnnmdaa
open Go.RowKit
set_option linter.unusedSimpArgs false
set_option linter.unusedVariables false

/-! ### Folding over the listed ones -/
section
variable {X : Type}
def fz (act : Nat → PStep → X → X) (L : Nat → Bool) : Nat → List PStep → X → X
  | _, [], x => x
  | k, y :: r, x => fz act L (k + 1) r (bif L k then act k y x else x)
variable {act : Nat → PStep → X → X} {L L' : Nat → Bool}
theorem fz_congr : ∀ (pl : List PStep) (k : Nat) (x : X), (∀ j y, pl[j]? = some y → L (k + j) ≠ L' (k + j) → ∀ x, act (k + j) y x = x) → fz act L k pl x = fz act L' k pl x := by
  intro pl
  induction pl with
  | nil => intro k x _; rfl
  | cons y r ih =>
    intro k x h
    simp only [fz]
    have e : (bif L k then act k y x else x) = (bif L' k then act k y x else x) := by
      by_cases e : L k = L' k
      · rw [e]
      · have h0 := h 0 y rfl (by simpa using e) x
        simp only [Nat.add_zero] at h0
        rw [h0]
        cases L k <;> cases L' k <;> rfl
    rw [e]
    exact ih (k + 1) _ fun j z hz hl x => by
      have e1 : k + 1 + j = k + (j + 1) := by omega
      rw [e1] at hl ⊢
      exact h (j + 1) z (by simpa using hz) hl x
theorem fz_out (pl : List PStep) (k : Nat) (x : X) (h : ∀ j y, pl[j]? = some y → L (k + j) = true → ∀ x, act (k + j) y x = x) : fz act L k pl x = x := by
  have h1 : fz act L k pl x = fz act (fun _ => false) k pl x := fz_congr pl k x fun j y hy hl => h j y hy (by revert hl; cases L (k + j) <;> simp)
  rw [h1]
  clear h1 h
  induction pl generalizing k x with
  | nil => rfl
  | cons y r ih => exact ih (k + 1) x
theorem fz_take (m : Nat) : ∀ (pl : List PStep) (k : Nat) (x : X), fz act L k (pl.take m) x = fz act (fun j => L j && decide (j < k + m)) k pl x := by
  induction m with
  | zero =>
    intro pl k x
    rw [List.take_zero]
    symm
    refine fz_out _ _ _ fun j y _ h => ?_
    simp at h; omega
  | succ m ih =>
    intro pl k x
    cases pl with
    | nil => rfl
    | cons y r =>
      simp only [List.take_succ_cons, fz]
      rw [ih]
      have e1 : decide (k < k + (m + 1)) = true := by simp
      rw [e1, Bool.and_true]
      refine fz_congr _ _ _ fun j y _ hl => absurd ?_ hl
      have : k + 1 + j < k + 1 + m ↔ k + 1 + j < k + (m + 1) := by omega
      simp only [this]
theorem fz_put : ∀ (pl : List PStep) (k i : Nat) (y : PStep) (x : X), pl[i]? = some y → L (k + i) = false → (∀ j, j ≠ k + i → L' j = L j) → L' (k + i) = true →
    ((∀ x, act (k + i) y x = x) ∨ (∀ j z, pl[j]? = some z → i < j → L (k + j) = true → ∀ x, act (k + j) z x = x)) → fz act L' k pl x = act (k + i) y (fz act L k pl x) := by
  intro pl
  induction pl with
  | nil => intro k i y x h; simp at h
  | cons z r ih =>
    intro k i y x hi hL hL' hLi hor
    cases i with
    | zero =>
      simp only [List.getElem?_cons_zero, Option.some.injEq] at hi
      subst hi
      simp only [Nat.add_zero] at hL hL' hLi hor ⊢
      simp only [fz, hL, hLi, cond_true, cond_false]
      have e1 : ∀ x, fz act L' (k + 1) r x = fz act L (k + 1) r x := fun x => fz_congr _ _ _ fun j y _ hl => absurd (hL' _ (by omega)) hl
      rw [e1]
      rcases hor with h | h
      · rw [h, h]
      · have h2 : ∀ x, fz act L (k + 1) r x = x := fun x => fz_out _ _ _ fun j y hy hl => by
          have e2 : k + 1 + j = k + (j + 1) := by omega
          rw [e2] at hl ⊢
          exact h (j + 1) y (by simpa using hy) (by omega) hl
        rw [h2, h2]
    | succ i =>
      have e1 : k + 1 + i = k + (i + 1) := by omega
      simp only [fz]
      rw [hL' k (by omega)]
      have := ih (k + 1) i y (bif L k then act k z x else x) (by simpa using hi) (by rw [e1]; exact hL) (by rw [e1]; exact hL') (by rw [e1]; exact hLi) (by
        rw [e1]
        rcases hor with h | h
        · exact .inl h
        · refine .inr fun j w hw hij hl => ?_
          have e2 : k + 1 + j = k + (j + 1) := by omega
          rw [e2] at hl ⊢
          exact h (j + 1) w (by simpa using hw) (by omega) hl)
      rw [e1] at this
      exact this
end
def tact (t : Nat) (_ : Nat) (y : PStep) (x : AV) : AV := if y.so.dst = some t then y.v else x
theorem tov_fz (L : Nat → Bool) (t : Nat) : ∀ (pl : List PStep) (k : Nat) (T : Tm), tget (tov L k pl T) t = fz (tact t) L k pl (tget T t) := by
  intro pl
  induction pl with
  | nil => intro k T; rfl
  | cons y r ih =>
    intro k T
    simp only [tov, fz, ih]
    congr 1
    cases L k with
    | false => rfl
    | true =>
      simp only [cond_true, tact, tset]
      cases hd : y.so.dst with
      | none => simp
      | some d =>
        simp only [tget, Option.some.injEq]
def hact (e : Eff) (id z : Id) (x : Option AO) : Option AO := match e with
  | .no => x
  | .new o => if id = z then some o else x
  | .upd i o => if i = z then x.map (fun _ => o) else x
  | .repl i o => if id = z then some o else if i = z then none else x
theorem hget_app (e : Eff) (H : Hp) (id z : Id) : hget (e.app H id) z = hact e id z (hget H z) := by
  cases e with
  | no => rfl
  | new o => simp only [Eff.app, hget, hact]
  | upd i o =>
    simp only [Eff.app, hact, hget_hset]
    by_cases h : i = z
    · subst h; simp
    · simp [h]
  | repl i o => simp only [Eff.app, hget, hact, hget_hdel]
theorem hact_out {e : Eff} {id z : Id} (h : z ∉ wrs e id) (x : Option AO) : hact e id z x = x := by
  cases e with
  | no => rfl
  | new o => simp [wrs] at h; simp [hact, Ne.symm h]
  | upd i o => simp [wrs] at h; simp [hact, Ne.symm h]
  | repl i o => simp [wrs] at h; simp [hact, Ne.symm h.1, Ne.symm h.2]
def gact (p : Id) (n0 : Nat) (z : Id) (j : Nat) (y : PStep) (x : Option AO) : Option AO := hact y.e ((n0 + j) :: p) z x
theorem hov_fz (p : Id) (n0 : Nat) (L : Nat → Bool) (z : Id) : ∀ (pl : List PStep) (k : Nat) (H : Hp), hget (hov p n0 L k pl H) z = fz (gact p n0 z) L k pl (hget H z) := by
  intro pl
  induction pl with
  | nil => intro k H; rfl
  | cons y r ih =>
    intro k H
    simp only [hov, fz, ih]
    congr 1
    cases L k with
    | false => rfl
    | true => simp only [cond_true, hget_app]; rfl

/-! ### An operation sees its operands, and of the heap what it asks for -/
theorem evOp_congr {P : Program} {T T' : Tm} {H : Hp} {id : Id} {op : Op} (h : ∀ t ∈ opTmps op, tget T t = tget T' t) : evOp P T H id op = evOp P T' H id op := by
  have hx : ∀ x, x ∈ op.operands → evo T x = evo T' x := by
    intro x hx
    cases x with
    | tmp t => exact h t (List.mem_filterMap.2 ⟨.tmp t, by simpa using hx, rfl⟩)
    | const v => rfl
    | func f => rfl
    | global g => rfl
  have hl : ∀ l : List Operand, (∀ x ∈ l, x ∈ op.operands) → l.map (evo T) = l.map (evo T') := fun l hl => List.map_congr_left fun x hm => hx x (hl x hm)
  cases op <;> simp only [evOp]
  case move x => rw [hx x (by simp [Op.operands])]
  case assign x => rw [hx x (by simp [Op.operands])]
  case pick c a b => rw [hx c (by simp [Op.operands]), hx a (by simp [Op.operands]), hx b (by simp [Op.operands])]
  case box t x => rw [hx x (by simp [Op.operands])]
  case build t parts =>
    have : (parts.toList.map fun p => (p.1, evo T p.2)) = parts.toList.map fun p => (p.1, evo T' p.2) := List.map_congr_left fun p hp => by rw [hx p.2 (by simp [Op.operands]; exact ⟨p.1, by simpa using hp⟩)]
    rw [this]
  case buildSlice t len parts =>
    have : (parts.toList.map fun p => (p.1, evo T p.2)) = parts.toList.map fun p => (p.1, evo T' p.2) := List.map_congr_left fun p hp => by rw [hx p.2 (by simp [Op.operands]; exact ⟨p.1, by simpa using hp⟩)]
    rw [this]
  case load t a => rw [hx a (by simp [Op.operands])]
  case store t a v => rw [hx a (by simp [Op.operands]), hx v (by simp [Op.operands])]
  case nilCheck x => rw [hx x (by simp [Op.operands])]
  case binOp o t x y k => rw [hx x (by simp [Op.operands]), hx y (by simp [Op.operands])]
  case unOp o t x => rw [hx x (by simp [Op.operands])]
  case convert s d x => rw [hx x (by simp [Op.operands])]
  case makeFunc fn first cap => rw [hl cap.toList (by intro x hm; simp [Op.operands]; first | exact .inr (by simpa using hm) | exact (by simpa using hm))]
  case makeMap t n => cases n <;> rfl
  case slice t x lo hi m =>
    cases m with
    | some _ => rfl
    | none =>
      simp only
      rw [hx x (by simp [Op.operands])]
      congr 1
      · cases lo with
        | none => rfl
        | some y => simp only [Option.map_some]; rw [hx y (by simp [Op.operands])]
      · cases hi with
        | none => rfl
        | some y => simp only [Option.map_some]; rw [hx y (by simp [Op.operands])]
  case fieldAddr s x f => rw [hx x (by simp [Op.operands])]
  case field s x f => rw [hx x (by simp [Op.operands])]
  case indexAddr t x i => rw [hx x (by simp [Op.operands]), hx i (by simp [Op.operands])]
  case index t x i => rw [hx x (by simp [Op.operands]), hx i (by simp [Op.operands])]
  case lookup t m k c => rw [hx m (by simp [Op.operands]), hx k (by simp [Op.operands])]
  case mapUpdate t m k v => rw [hx m (by simp [Op.operands]), hx k (by simp [Op.operands]), hx v (by simp [Op.operands])]
  case extract x i => rw [hx x (by simp [Op.operands])]
  case call c =>
    have ha : ∀ x ∈ c.args.toList, x ∈ Op.operands (.call c) := by
      intro x hm
      simp [Op.operands, Call.operands]
      first | exact .inr (by simpa using hm) | exact .inl (by simpa using hm)
    unfold evCall
    split
    · split
      · rename_i x t e1 e2; rw [hx x (ha x (by rw [e1]; simp))]
      · rfl
    · split
      · rename_i s x st xt e1 e2; rw [hx s (ha s (by rw [e1]; simp)), hx x (ha x (by rw [e1]; simp))]
      · rfl
    · split
      · rename_i x y e1; rw [hx x (ha x (by rw [e1]; simp)), hx y (ha y (by rw [e1]; simp))]
      · rfl
    · split
      · rename_i x y e1; rw [hx x (ha x (by rw [e1]; simp)), hx y (ha y (by rw [e1]; simp))]
      · rfl
    · rename_i f hf
      rw [hl c.args.toList ha, hx f (by simp [Op.operands, Call.operands, hf])]
    · rfl

def Sub (H H' : Hp) : Prop := ∀ z o, hget H z = some o → hget H' z = some o
theorem frz1_mono {H H' : Hp} (hs : Sub H H') : ∀ {args args' : List AV} {i : Id} {o : AO}, frz1 H args = some (args', i, o) → frz1 H' args = some (args', i, o) := by
  intro args
  induction args with
  | nil => intro args' i o h; cases h
  | cons v r ih =>
    intro args' i o h
    cases v with
    | sl i' sz off len =>
      simp only [frz1] at h ⊢
      split at h
      · rename_i cells ro hh
        rw [hs _ _ hh]
        exact h
      · cases h
    | _ =>
      simp only [frz1] at h ⊢
      split at h
      · rename_i r' i' o' hr
        rw [ih hr]
        exact h
      · cases h
theorem ResTo.mono {P : Program} {H H' : Hp} (hs : Sub H H') {v : AV} {e : Eff} : ∀ {r : Res}, ResTo P H v e r → ResTo P H' v e r := by
  intro r
  induction r with
  | val v' e' => exact fun h => h
  | need c r ih => exact fun h => ⟨h.1, ih h.2⟩
  | call f args =>
    rintro (h | ⟨args', i, o, h1, h2, h3⟩)
    · exact .inl h
    · exact .inr ⟨args', i, o, frz1_mono hs h1, h2, h3⟩
  | yld i args => exact fun h => h
  | fail => exact fun h => h
/-- The result stays when the heap grows, or there was none. -/
theorem evLen_mono {P : Program} {H H' : Hp} (hs : Sub H H') {t : TypeId} {x : AV} : evLen P H t x = .fail ∨ evLen P H' t x = evLen P H t x := by
  unfold evLen
  split <;> try exact .inr rfl
  split
  · rename_i h1 h2
    rw [hs _ _ h2]
    exact .inr (by simp [h1])
  · exact .inl rfl
theorem evSrc_mono {P : Program} {H H' : Hp} (hs : Sub H H') {n : Nat} {e xt : TypeId} {x : AV} {r} (h : evSrc P H n e xt x = some r) : evSrc P H' n e xt x = some r := by
  unfold evSrc at h ⊢
  split at h
  · exact h
  · exact h
  · exact h
  · split at h
    · rename_i hc
      rw [if_pos hc]
      split at h
      · rename_i hh
        rw [hs _ _ hh]
        exact h
      · cases h
    · cases h
  · cases h
theorem evAppend_mono {P : Program} {H H' : Hp} (hs : Sub H H') {id : Id} {st xt : TypeId} {sv x : AV} : evAppend P H id st xt sv x = .fail ∨ evAppend P H' id st xt sv x = evAppend P H id st xt sv x := by
  unfold evAppend
  split <;> try exact .inl rfl
  split <;> try exact .inl rfl
  split <;> try exact .inl rfl
  split <;> try exact .inl rfl
  cases hx : evSrc P H _ _ xt x with
  | none => exact .inl rfl
  | some r =>
    rw [evSrc_mono hs hx]
    obtain ⟨news, m⟩ := r
    simp only
    split <;> try exact .inr rfl
    split
    · rename_i hh
      rw [hs _ _ hh]
      exact .inr rfl
    · exact .inl rfl
theorem evOp_mono {P : Program} {T : Tm} {H H' : Hp} (hs : Sub H H') {id : Id} {op : Op} : evOp P T H id op = .fail ∨ evOp P T H' id op = evOp P T H id op := by
  cases op <;> (try exact .inr rfl) <;> simp only [evOp]
  case makeMap t n => cases n <;> exact .inr rfl
  case slice t x lo hi m => cases m <;> exact .inr rfl
  case load t a =>
    unfold evLoad
    split <;> try exact .inl rfl
    split <;> try exact .inr rfl
    split
    · rename_i hh
      rw [hs _ _ hh]; exact .inr rfl
    · exact .inl rfl
  case store t a v =>
    unfold evStore
    split <;> try exact .inl rfl
    split
    · rename_i hh
      rw [hs _ _ hh]; exact .inr rfl
    · exact .inl rfl
  case lookup t m k c =>
    unfold evLookup
    split <;> try exact .inl rfl
    split <;> try exact .inl rfl
    split <;> try exact .inl rfl
    split <;> try exact .inl rfl
    split
    · rename_i hh
      rw [hs _ _ hh]; exact .inr rfl
    · exact .inl rfl
  case mapUpdate t m k v =>
    unfold evMapUpdate
    split <;> try exact .inl rfl
    split <;> try exact .inl rfl
    split <;> try exact .inl rfl
    split
    · rename_i hh
      rw [hs _ _ hh]; exact .inr rfl
    · exact .inl rfl
  case call c =>
    unfold evCall
    split <;> try exact .inr rfl
    · split
      · exact evLen_mono hs
      · exact .inr rfl
    · split
      · exact evAppend_mono hs
      · exact .inr rfl

/-! ### The region -/
structure DInv (E : En) (B : Base) (w0 : World) (σ0 : Facts) (ι0 : Where) (q : Id) (ds : List Deferred) (p : Id) (n0 : Nat) (pl : List PStep) (T0 : Tm) (H0 : Hp) (L : Nat → Bool) (a : Act) (w : World) (σ : Facts) (ι : Where) : Prop where
  le : ∀ x y, σ0 x y → σ x y
  lei : ∀ j y, ι0 j = some y → ι j = some y
  out : ∀ j, ¬ q <:+ j → ι j = ι0 j
  wr : WR B w0 σ ι (hov p n0 L 0 pl H0) w
  tr : TRel σ ι (tov L 0 pl T0) a.tmps
  nt : a.tmps.size = E.nt
  qp : q <:+ p
  fr : ∀ j k, L k = false → ((n0 + k) :: p) <:+ j → ι j = none
  df : Dfs σ ι T0 ds a.defers
  nk : E.nt ≤ 1000000
theorem TRel.congr {σ : Facts} {ι : Where} {T T' : Tm} {tmps : Array Value} (h : TRel σ ι T tmps) (e : ∀ t, tget T' t = tget T t) : TRel σ ι T' tmps := fun t => by rw [e]; exact h t
/-- What one listed operation does, as the machine does it. -/
theorem step_res {E : En} {B : Base} {w0 w : World} {σ : Facts} {ι : Where} {H : Hp} {T : Tm} {id : Id} {a : Act} {o : Oper} {v : AV} {e : Eff} {next : Act → World → Prop} {Q : Exit → Act → World → Prop}
    (hw : WR B w0 σ ι H w) (hT : TRel σ ι T a.tmps) (hid : ∀ j, id <:+ j → ι j = none) (hok : operOk E.nt o = true) (hr : ResTo E.P H v e (evOp E.P T H id o.op))
    (hK : ∀ u w' σ' ι', VR σ' ι' v u → WR B w0 σ' ι' (e.app H id) w' → (∀ x y, σ x y → σ' x y) → (∀ j y, ι j = some y → ι' j = some y) → (∀ j, ¬ id <:+ j → ι' j = ι j) → next (a.put o.dst u) w') :
    o.wpIn E.F 0 E.P a w next Q := by
  have hok0 := hok
  simp only [operOk, Bool.and_eq_true] at hok
  obtain ⟨⟨hop, _⟩, hnd⟩ := hok
  have hsem : o.semAt E.F.round a.eval = execOp a.eval o := Oper.semAt_eq _ _ _ (fun c hc => by rw [hc] at hnd; simp [noDefer] at hnd)
  have hsat := evOp_sound (P := E.P) hw hT (hid _ (List.suffix_refl _)) hop
  refine ⟨fun _ _ => trivial, ?_⟩
  rw [hsem]
  generalize evOp E.P T H id o.op = r at hr hsat
  induction r with
  | val v' e' =>
    obtain ⟨rfl, rfl⟩ := hr
    obtain ⟨u, w', hrun, σ', ι', hv, hw', h1, h2, h3⟩ := hsat
    have := hK u w' σ' ι' hv hw' h1 h2 (fun j hj => h3 j (fun e => hj (by rw [e]; exact List.suffix_refl _)))
    rcases hrun with hrun | ⟨hrun, rfl⟩
    · rw [hrun]; exact this
    · rw [hrun]; exact this
  | need c r ih => exact ih hr.2 (hsat hr.1)
  | call f args =>
    obtain ⟨us, hrun, hus⟩ := hsat
    rw [hrun]
    refine ⟨fun h => (by simp [En.F, Fence.wide] at h), trivial, fun cs hroom => ?_⟩
    rcases hr with ⟨hp, rfl⟩ | ⟨args', i, ao, hf, hp, rfl⟩
    · obtain ⟨e, w', fr, ⟨v1, u, H', σ', ι', rfl, ⟨rfl, rfl⟩, hv, hw', h1, h2, h3⟩, x⟩ := (hp H id B w0 σ ι w us hw hid hus).2 cs (room_wide _)
      exact ⟨.returned u, w', fr, hK u w' σ' ι' hv hw' h1 h2 h3, x⟩
    · have hfz : ∃ σ1, (∀ x y, σ x y → σ1 x y) ∧ WR B w0 σ1 ι (hset H i ao) w ∧ VRs σ1 ι args' us := by
        clear hrun hp
        induction args generalizing args' us with
        | nil => cases hf
        | cons v0 r ih =>
          obtain ⟨u0, us', rfl, hu, hus'⟩ := hus.cons_inv
          have hcase : (∃ sz off len, v0 = .sl i sz off len ∧ args'.tail = r ∧ ∃ v1, args' = v1 :: r ∧ frzV H v0 = some (v1, hset H i ao)) ∨ (∃ r', args' = v0 :: r' ∧ frz1 H r = some (r', i, ao)) := by
            cases v0 with
            | sl i' sz off len =>
              left
              simp only [frz1] at hf
              split at hf
              · rename_i cells ro hh
                split at hf
                · rename_i ts hts
                  split at hf
                  · rename_i hc
                    simp only [Option.some.injEq, Prod.mk.injEq] at hf
                    obtain ⟨rfl, rfl, rfl⟩ := hf
                    exact ⟨sz, off, len, rfl, rfl, _, rfl, by simp only [frzV, hh, hts, if_pos hc]⟩
                  · cases hf
                · cases hf
              · cases hf
            | _ =>
              right
              simp only [frz1] at hf
              split at hf
              · rename_i r' i' o' hr
                simp only [Option.some.injEq, Prod.mk.injEq] at hf
                obtain ⟨rfl, rfl, rfl⟩ := hf
                exact ⟨r', rfl, hr⟩
              · cases hf
          rcases hcase with ⟨sz, off, len, _, _, v1, rfl, hfv⟩ | ⟨r', rfl, hfr⟩
          · obtain ⟨σ1, l1, hw1, hv1⟩ := frzV_ok hw hfv
            exact ⟨σ1, l1, hw1, VRs.cons (hv1 u0 hu) (hus'.mono l1 (fun _ _ h => h))⟩
          · obtain ⟨σ1, l1, hw1, hv1⟩ := ih _ hus' _ hfr
            exact ⟨σ1, l1, hw1, VRs.cons (hu.mono l1 (fun _ _ h => h)) hv1⟩
      obtain ⟨σ1, l1, hw1, hus1⟩ := hfz
      obtain ⟨e, w', fr, ⟨v1, u, H', σ', ι', rfl, ⟨rfl, rfl⟩, hv, hw', h1, h2, h3⟩, x⟩ := (hp (hset H i ao) id B w0 σ1 ι w us hw1 hid hus1).2 cs (room_wide _)
      exact ⟨.returned u, w', fr, hK u w' σ' ι' hv hw' (fun x y h => h1 _ _ (l1 _ _ h)) h2 h3, x⟩
  | yld i args => exact hr.elim
  | fail => exact hr.elim
end Go.Proofs.Ythmimpiegnnmdaa
