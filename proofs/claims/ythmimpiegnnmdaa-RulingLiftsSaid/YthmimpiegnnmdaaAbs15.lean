/- Ranges over functions. -/
import Derived.Test.YthmimpiegnnmdaaAbs14
namespace Go.Proofs.Ythmimpiegnnmdaa
open Go.RowKit
set_option linter.unusedSimpArgs false
set_option linter.unusedVariables false

def tsets : List Nat → List AV → Tm → Tm
  | t :: ts, v :: vs, T => tsets ts vs ((t, v) :: T)
  | _, _, T => T
theorem tsets_rel {σ : Facts} {ι : Where} : ∀ (ps : List Nat) (vs : List AV) (us : List Value) (T : Tm) (tmps : Array Value), TRel σ ι T tmps → VRs σ ι vs us → (∀ t ∈ ps, t < tmps.size) →
    TRel σ ι (tsets ps vs T) ((ps.zip us).foldl (fun tmps (t, a) => tmps.setIfInBounds t a) tmps) ∧ ((ps.zip us).foldl (fun tmps (t, a) => tmps.setIfInBounds t a) tmps).size = tmps.size := by
  intro ps
  induction ps with
  | nil => intro vs us T tmps hT _ _; exact ⟨by simpa [tsets] using hT, by simp⟩
  | cons t ts ih =>
    intro vs us T tmps hT hv hlt
    cases vs with
    | nil => have := hv.nil_inv; subst this; exact ⟨by simpa [tsets] using hT, by simp⟩
    | cons v vs =>
      obtain ⟨u, us', rfl, h1, h2⟩ := hv.cons_inv
      have ht : t < tmps.size := hlt t (by simp)
      obtain ⟨g1, g2⟩ := ih vs us' ((t, v) :: T) (tmps.setIfInBounds t u) (by
        intro k
        simp only [tget]
        by_cases e : t = k
        · subst e; rw [if_pos rfl]; simp [Array.getD, ht]; exact h1
        · rw [if_neg e]
          have := hT k
          simp only [Array.getD_eq_getD_getElem?, Array.getElem?_setIfInBounds_ne e] at this ⊢
          exact this) h2 (fun k hk => by simpa using hlt k (by simp [hk]))
      simp only [List.zip_cons_cons, List.foldl_cons, tsets]
      exact ⟨g1, by simpa using g2⟩
/-- How a round's end is told: the record's new state, what yield hands back. -/
def roundQ (i : Id) (q : Id) (post : AV → Hp → Prop) (e : Exit) (s : St) : Prop :=
  ∃ T nt ps asg body st j, hget s.H i = some (.loop T nt ps asg body st j) ∧ match e with
    | .normal => post (.tv (.bool true)) (hset s.H i (.loop T nt ps asg body .ready none))
    | .ret => post (.tv (.bool false)) (hset s.H i (.loop T nt ps asg body .done (some .ret)))
    | .exit k => post (.tv (.bool false)) (hset s.H i (.loop T nt ps asg body .done (some (.exit k))))
    | _ => False
/-- One round, out of the triples of its assignment and its body. -/
theorem yld_of_at {P : Program} {i : Id} {args : List AV} {H : Hp} {q : Id} {post : AV → Hp → Prop} {T : Tm} {nt : Nat} {ps : List Nat} {asg body : Code} {j : Option Code}
    (hi : hget H i = some (.loop T nt ps asg body .ready j)) (hn : args.length = ps.length ∧ (∀ t ∈ ps, t < nt) ∧ nt ≤ 1000000)
    (h : ∀ l, AT ⟨P, some l, nt⟩ asg (fun e s => e = .normal ∧ ∃ T1 nt1 ps1 asg1 body1 j1, hget s.H i = some (.loop T1 nt1 ps1 asg1 body1 .ready j1) ∧
      AT ⟨P, some l, nt⟩ body (roundQ i q post) ⟨s.T, hset s.H i (.loop T1 nt1 ps1 asg1 body1 .busy j1), s.p, s.n⟩) ⟨(1000000, .any) :: tsets ps args T, H, q, 0⟩) : YldOK P i args H q post := by
  intro B w0 σ ι w us l n hw hq hus hil
  obtain ⟨_, obj, hobj, r, rfl, hT, hnt, hps, hasg, hbody, hst, hj⟩ := hw.obj i _ l n hi hil
  have hsz : us.toArray.size = r.params.size := by rw [hps]; simp [hus.1, hn.1]
  refine ⟨_, _, _, _, run_yield hobj hsz, ?_⟩
  have hfold : (r.params.zip us.toArray).foldl (fun tmps (t, a) => tmps.setIfInBounds t a) r.tmps = (ps.zip us).foldl (fun tmps (t, a) => tmps.setIfInBounds t a) r.tmps := by
    rw [hps, List.zip_toArray, List.foldl_toArray]
  rw [hasg, hbody]
  refine roundIn_of_wpIn trivial ?_
  obtain ⟨g1, g2⟩ := tsets_rel ps args us T r.tmps hT hus (fun t ht => by rw [hnt]; exact hn.2.1 t ht)
  have hstart : SR ⟨P, some l, nt⟩ B w0 σ ι q [] ⟨(1000000, .any) :: tsets ps args T, H, q, 0⟩ { tmps := (r.params.zip us.toArray).foldl (fun tmps (t, a) => tmps.setIfInBounds t a) r.tmps, defers := [] } w := by
    refine ⟨σ, ι, fun _ _ h => h, fun _ _ h => h, fun _ _ => rfl, hw, fun k => ?_, ?_, List.suffix_refl _, fun j k _ hj => hq j ((List.suffix_cons _ _).trans hj), ⟨[], rfl, rfl⟩, hn.2.2⟩
    · simp only [tget]
      split
      · exact .any _
      · rw [hfold]; exact g1 k
    · show _ = nt
      rw [← hnt, ← g2, ← hfold]
  refine wpIn_mono (h l B w0 σ ι q [] _ w hstart) fun e a1 w1 ⟨s1, hq1, σ1, ι1, hs1⟩ => ?_
  obtain ⟨rfl, T1, nt1, ps1, asg1, body1, j1, hi1, hbody1⟩ := hq1
  have hil1 : ι1 i = some (some (l, n)) := hs1.lei _ _ hil
  obtain ⟨_, obj1, hobj1, r1, rfl, hT1, hnt1, hps1, hasg1, hbd1, hst1, hj1⟩ := hs1.wr.obj i _ l n hi1 hil1
  refine ⟨_, run_beginRound hobj1 hst1, ?_⟩
  have hw2 := hs1.wr.putObj hi1 (fun _ h => by cases h) hil1 (.loop T1 nt1 ps1 asg1 body1 .busy j1) (x := .loop { r1 with state := .busy }) ⟨_, rfl, hT1, hnt1, hps1, hasg1, hbd1, rfl, hj1⟩
  have hs2 : SR ⟨P, some l, nt⟩ B w0 σ ι q [] ⟨s1.T, hset s1.H i (.loop T1 nt1 ps1 asg1 body1 .busy j1), s1.p, s1.n⟩ a1 (w1.putObj l (.loop { r1 with state := .busy })) :=
    ⟨σ1, ι1, hs1.le, hs1.lei, hs1.out, hw2, hs1.tr, hs1.nt, hs1.qp, hs1.fr, hs1.df, hs1.nk⟩
  refine wpIn_mono (hbody1 B w0 σ ι q [] a1 _ hs2) fun e a3 w3 ⟨s3, hq3, σ3, ι3, hs3⟩ => ?_
  obtain ⟨T3, nt3, ps3, asg3, body3, st3, j3, hi3, hq3⟩ := hq3
  have hil3 : ι3 i = some (some (l, n)) := hs3.lei _ _ hil
  obtain ⟨_, obj3, hobj3, r3, rfl, hT3, hnt3, hps3, hasg3, hbd3, hst3, hj3⟩ := hs3.wr.obj i _ l n hi3 hil3
  have fin : ∀ (st : LoopState) (jp : Option Code) (v : Value) (b : Bool), v = .bool b → post (.tv (.bool b)) (hset s3.H i (.loop T3 nt3 ps3 asg3 body3 st jp)) →
      ∃ v1 u H' σ' ι', Ending.returned v = .returned u ∧ post v1 H' ∧ VR σ' ι' v1 u ∧ WR B w0 σ' ι' H' (w3.putObj l (.loop { r3 with state := st, pending := jp })) ∧
      (∀ x y, σ x y → σ' x y) ∧ (∀ j y, ι j = some y → ι' j = some y) ∧ ∀ j, ¬ q <:+ j → ι' j = ι j := by
    rintro st jp v b rfl hp
    exact ⟨_, _, _, σ3, ι3, rfl, hp, .tv (.bool b), hs3.wr.putObj hi3 (fun _ h => by cases h) hil3 _ ⟨_, rfl, hT3, hnt3, hps3, hasg3, hbd3, rfl, rfl⟩, hs3.le, hs3.lei, hs3.out⟩
  cases e with
  | normal => exact ⟨_, _, run_endRound none hobj3, fin _ _ _ true rfl hq3⟩
  | ret => exact ⟨_, _, run_endRound (some .ret) hobj3, fin _ _ _ false rfl hq3⟩
  | exit k => exact ⟨_, _, run_endRound (some (.exit k)) hobj3, fin _ _ _ false rfl hq3⟩
  | goto _ => exact hq3.elim
  | panic _ => exact hq3.elim
  | outgrown => exact hq3.elim
def dpush (v d : AV) : AV := match v with
  | .any => .ds [d]
  | .ds l => .ds (d :: l)
  | v => v
/-- The statement itself: the function that is ranged over, called with the rounds' function. -/
theorem at_rangeFunc {P : Program} {nt : Nat} {Q : Exit → St → Prop} {g : Operand} {ps : Array Tmp} {asg body : Code} {T : Tm} {H : Hp} {p : Id} {n : Nat} {f : FuncId} {cap : List AV} {post : AV → Hp → Prop}
    (hg : evo T g = .fn (.func f) cap) (hgo : opdOk g = true) (hf : tFn P f = true)
    (hc : CallOK P f (.yl ((n + 1) :: p) :: cap) (((n + 1) :: p, .loop T nt ps.toList asg body .ready none) :: (n :: p, .dfr) :: H) ((n + 2) :: p) post)
    (hp : ∀ v H', post v H' → ∃ T1 nt1 ps1 asg1 body1 st j, hget H' ((n + 1) :: p) = some (.loop T1 nt1 ps1 asg1 body1 st j) ∧ st ≠ .busy ∧ match j with
      | none => Q .normal ⟨(1000000, dpush (tget T 1000000) (.ptr (n :: p) 0)) :: T, hset H' ((n + 1) :: p) .gone, p, n + 3⟩
      | some .ret => Q .ret ⟨(1000000, dpush (tget T 1000000) (.ptr (n :: p) 0)) :: T, hset H' ((n + 1) :: p) .gone, p, n + 3⟩
      | some (.exit k) => Q (.exit k) ⟨(1000000, dpush (tget T 1000000) (.ptr (n :: p) 0)) :: T, hset H' ((n + 1) :: p) .gone, p, n + 3⟩
      | _ => False) : AT ⟨P, none, nt⟩ (.rangeFunc g ps asg body) Q ⟨T, H, p, n⟩ := by
  rintro B w0 σ0 ι0 q ds a w ⟨σ, ι, hs⟩
  refine wpIn_rangeFunc fun fn _ => ?_
  have hv := evo_ok hs.tr g hgo
  rw [hg] at hv
  obtain ⟨us, hus, hgu⟩ : ∃ us, VRs σ ι cap us ∧ a.eval g = .func (.func f) #[] us.toArray := by
    generalize a.eval g = u at hv
    cases hv with
    | fn _ _ us hl hv => exact ⟨us, ⟨hl, hv⟩, rfl⟩
  -- the two blocks
  have hid0 : ι (n :: p) = none := hs.fr _ n (Nat.le_refl _) (List.suffix_refl _)
  have hid1 : ι ((n + 1) :: p) = none := hs.fr _ (n + 1) (by show n ≤ n + 1; omega) (List.suffix_refl _)
  have hw1 := hs.wr.new (n :: p) hid0 (.deferred (some [])) 0 .dfr rfl
  have hne : ((n + 1) :: p) ≠ n :: p := by simp
  have hid1' : wput ι (n :: p) (some (w.heap.size, 0)) ((n + 1) :: p) = none := by
    unfold wput; rw [if_neg hne]; exact hid1
  have hle1 := wput_le (x := some (w.heap.size, 0)) hid0
  have hle2 := wput_le (x := some ((w.alloc (.deferred (some []))).heap.size, 0)) hid1'
  have hmono := fun j y (h : ι j = some y) => hle2 j y (hle1 j y h)
  have hw2 := hw1.new ((n + 1) :: p) hid1' (.loop { state := .ready, pending := none, fn := fn, tmps := a.tmps, params := ps, assign := asg, body := body, defers := w.heap.size }) 0 (.loop T nt ps.toList asg body .ready none)
    ⟨_, rfl, fun t => (hs.tr t).mono (fun _ _ h => h) hmono, hs.nt, by simp, rfl, rfl, rfl, rfl⟩
  have henter := run_enterLoop_outer (P := P) (w := w) fn a.tmps ps asg body
  have hasz : (w.alloc (.deferred (some []))).heap.size = w.heap.size + 1 := World.size_alloc _ _
  rw [hasz] at hw2 hmono hle2
  generalize hW : (w.alloc (.deferred (some []))).alloc (.loop { state := .ready, pending := none, fn := fn, tmps := a.tmps, params := ps, assign := asg, body := body, defers := w.heap.size }) = W at hw2 henter
  generalize hι : wput (wput ι (n :: p) (some (w.heap.size, 0))) ((n + 1) :: p) (some (w.heap.size + 1, 0)) = ι2 at hw2 hmono hle2
  have hy : ι2 ((n + 1) :: p) = some (some (w.heap.size + 1, 0)) := by rw [← hι]; unfold wput; rw [if_pos rfl]
  have hd : ι2 (n :: p) = some (some (w.heap.size, 0)) := by
    rw [← hι]; unfold wput; rw [if_neg (fun e => hne e.symm), if_pos rfl]
  have hother : ∀ j, j ≠ n :: p → j ≠ (n + 1) :: p → ι2 j = ι j := by
    intro j h1 h2; rw [← hι]; unfold wput; rw [if_neg h2, if_neg h1]
  refine ⟨w.heap.size + 1, _, W, { target := .fn (.func f) us.toArray, args := #[.func (.yield (w.heap.size + 1)) #[] #[]] }, W, f, (.func (.yield (w.heap.size + 1)) #[] #[] :: us).toArray, W, henter, ?_, fun _ _ => trivial, ?_, fun h => (by simp [En.F, Fence.wide] at h), trivial, fun cs hroom => ?_⟩
  · simp [resolve, rangeCall, hgu, Deferred.ofValue]
    rfl
  · simp [invoke, callFunc_run hf]
  · have hfresh : ∀ j, ((n + 2) :: p) <:+ j → ι2 j = none := by
      intro j hj
      rw [hother j (fun e => by subst e; have := hj.length_le; have := List.IsSuffix.eq_of_length hj (by simp); simp at this) (fun e => by subst e; have := List.IsSuffix.eq_of_length hj (by simp); simp at this)]
      exact hs.fr j (n + 2) (by show n ≤ n + 2; omega) hj
    obtain ⟨e, w', fr, ⟨v, u, H', σ', ι', rfl, hpost, hv', hw', h1, h2, h3⟩, x⟩ := (hc B w0 σ ι2 W (.func (.yield (w.heap.size + 1)) #[] #[] :: us) hw2 hfresh (VRs.cons (.yl _ _ _ hy) (hus.mono (fun _ _ h => h) hmono))).2 cs (room_wide _)
    refine ⟨.returned u, w', fr, ?_, x⟩
    obtain ⟨T1, nt1, ps1, asg1, body1, st, j, hi, hst, hq⟩ := hp v H' hpost
    have hil := h2 _ _ hy
    have hid := h2 _ _ hd
    obtain ⟨_, obj, hobj, r, rfl, hT, hnt, hps, hasg, hbd, hst', hj⟩ := hw'.obj _ _ _ _ hi hil
    refine ⟨j, _, by rw [← hj]; exact run_endLoop hobj (by rw [hst']; exact hst), ?_⟩
    have hw3 := hw'.putObj hi (fun _ h => by cases h) hil .gone (x := .loop { r with state := .exhausted }) trivial
    have hle : ∀ k y, ι k = some y → ι' k = some y := fun k y h => h2 _ _ (hmono _ _ h)
    have hdf : Dfs σ' ι' ((1000000, dpush (tget T 1000000) (.ptr (n :: p) 0)) :: T) ds ([{ target := .collected w.heap.size, args := #[] }] ++ a.defers) := by
      obtain ⟨ms, hms, hdr⟩ := hs.df.mono h1 hle
      refine ⟨{ target := .collected w.heap.size, args := #[] } :: ms, by rw [hms]; rfl, ?_⟩
      simp only [tget, if_true]
      generalize tget T 1000000 = dv at hdr
      cases dv with
      | any =>
        have : ms = [] := hdr
        subst this
        refine ⟨rfl, fun j v d hv hd' => ?_⟩
        cases j with
        | zero => simp at hv hd'; subst hv hd'; exact ⟨_, _, hid, rfl⟩
        | succ j => simp at hv
      | ds l =>
        refine ⟨by simp [hdr.1], fun j v d hv hd' => ?_⟩
        cases j with
        | zero => simp at hv hd'; subst hv hd'; exact ⟨_, _, hid, rfl⟩
        | succ j => exact hdr.2 j v d (by simpa using hv) (by simpa using hd')
      | _ => exact hdr.elim
    have hsr : SR ⟨P, none, nt⟩ B w0 σ0 ι0 q ds ⟨(1000000, dpush (tget T 1000000) (.ptr (n :: p) 0)) :: T, hset H' ((n + 1) :: p) .gone, p, n + 3⟩ { a with defers := [{ target := .collected w.heap.size, args := #[] }] ++ a.defers } (w'.putObj (w.heap.size + 1) (.loop { r with state := .exhausted })) := by
      refine ⟨σ', ι', fun x y h => h1 _ _ (hs.le x y h), fun j y h => hle _ _ (hs.lei j y h), fun k hk => ?_, ?_, fun k => ?_, hs.nt, hs.qp, fun k m hm hk => ?_, hdf, hs.nk⟩
      · have hsuf := hs.qp
        rw [h3 k (fun h => hk ((hsuf.trans (List.suffix_cons _ _)).trans h)), hother k (fun e => by subst e; exact hk (hsuf.trans (List.suffix_cons _ _))) (fun e => by subst e; exact hk (hsuf.trans (List.suffix_cons _ _)))]
        exact hs.out k hk
      · exact hw3
      · simp only [tget]
        split
        · obtain ⟨ms, _, hdr⟩ := hs.df
          generalize tget T 1000000 = dv at hdr
          cases dv with
          | any => exact .ds _ _
          | ds l => exact .ds _ _
          | _ => exact hdr.elim
        · exact (hs.tr k).mono h1 hle
      · have hm' : n + 3 ≤ m := hm
        rw [h3 k (fun h => by have := suffix_cons_ne hk h; omega), hother k (fun e => by subst e; have := suffix_cons_ne hk (List.suffix_refl _); omega) (fun e => by subst e; have := suffix_cons_ne hk (List.suffix_refl _); omega)]
        exact hs.fr k m (by show n ≤ m; omega) hk
    cases j with
    | none => exact ⟨_, hq, hsr⟩
    | some c => cases c with
      | ret => exact wpIn_ret ⟨_, hq, hsr⟩
      | exit k => exact wpIn_exit ⟨_, hq, hsr⟩
      | _ => exact hq.elim
end Go.Proofs.Ythmimpiegnnmdaa
