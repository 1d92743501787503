/- The region that draws its order, whole. -/
import Derived.Test.YthmimpiegnnmdaaAbs13
namespace Go.Proofs.Ythmimpiegnnmdaa
open Go.RowKit
set_option linter.unusedSimpArgs false
set_option linter.unusedVariables false

structure DOk (ops : Array Oper) (os : List SOp) (ms : List Nat) : Prop where
  d0 : ∀ (k : Nat) o, ops[k]? = some o → ∀ e ∈ o.after, Region.binds .any e = true → e.on < k
  d1 : ∀ (k : Nat) o, ops[k]? = some o → ∀ j, (ms.getD k 0).testBit j = true → ∃ e ∈ o.after, Region.binds .any e = true ∧ (e.on = j ∨ (ms.getD e.on 0).testBit j = true)
  d2 : ∀ k, k < ops.size → ∀ j, k ≤ j → (ms.getD k 0).testBit j = false
  d3 : ∀ (k j : Nat) (x y : SOp) t, k < ops.size → j < ops.size → j ≠ k → os[k]? = some x → os[j]? = some y → y.dst = some t → (t ∈ opTmps x.op ∨ t ∈ gTmps x.g ∨ x.dst = some t) →
    (j < k ∧ (ms.getD k 0).testBit j = true) ∨ (k < j ∧ (ms.getD j 0).testBit k = true)
theorem drawOk_spec {ops : Array Oper} {os : List SOp} {ms : List Nat} (h : drawOk ops os ms = true) : DOk ops os ms := by
  unfold drawOk at h
  rw [Bool.and_eq_true, Bool.and_eq_true, Bool.and_eq_true] at h
  obtain ⟨⟨⟨h0, h1⟩, h2⟩, h3⟩ := h
  rw [List.all_eq_true] at h0 h1 h2 h3
  have hd2 : ∀ k, k < ops.size → ∀ j, k ≤ j → (ms.getD k 0).testBit j = false := by
    intro k hk j hj
    have := h2 k (List.mem_range.2 hk)
    simp only [decide_eq_true_eq] at this
    exact Nat.testBit_lt_two_pow (Nat.lt_of_lt_of_le this (Nat.pow_le_pow_right (by omega) hj))
  refine ⟨?_, ?_, hd2, ?_⟩
  · intro k o ho e he hb
    have hk := (Array.getElem?_eq_some_iff.1 ho).1
    have := h0 k (List.mem_range.2 hk)
    rw [ho] at this
    simp only [Option.all_some, Array.all_eq_true_iff_forall_mem] at this
    have := this e he
    rw [hb] at this
    simpa using this
  · intro k o ho j hj
    have hk := (Array.getElem?_eq_some_iff.1 ho).1
    have hjk : j < k := by
      apply Classical.byContradiction
      intro hn
      rw [hd2 k hk j (by omega)] at hj
      cases hj
    have := h1 k (List.mem_range.2 hk)
    rw [List.all_eq_true] at this
    have := this j (List.mem_range.2 hjk)
    rw [hj, ho] at this
    simp only [Bool.not_true, Bool.false_or, Option.any_some] at this
    rw [← Array.any_toList, List.any_eq_true] at this
    obtain ⟨e, he, hb⟩ := this
    simp only [Bool.and_eq_true, Bool.or_eq_true, beq_iff_eq] at hb
    exact ⟨e, by simpa using he, hb.1, hb.2⟩
  · intro k j x y t hk hj hne hx hy hd hor
    have := h3 k (List.mem_range.2 hk)
    rw [List.all_eq_true] at this
    have := this j (List.mem_range.2 hj)
    rw [hy, hx] at this
    have hd' : ((some y).bind fun x => x.dst) = some t := hd
    simp only [hd', Option.any_some] at this
    rw [Bool.or_eq_true] at this
    rcases this with h | h
    · exact absurd (by simpa using h) hne
    · have hc : ((opTmps x.op).contains t || (gTmps x.g).contains t || x.dst == some t) = true := by
        rcases hor with h | h | h
        · simp [h]
        · simp [h]
        · simp [h]
      rw [hc] at h
      simp only [Bool.not_true, Bool.false_or] at h
      by_cases hlt : j < k
      · rw [if_pos hlt] at h; exact .inl ⟨hlt, h⟩
      · rw [if_neg hlt] at h; exact .inr ⟨by omega, h⟩
/-- The facts of one step, taken apart. -/
structure PRun (P : Program) (p : Id) (n0 : Nat) (H0 : Hp) (T0 : Tm) (ms : List Nat) (pl : List PStep) (k : Nat) (x : PStep) : Prop where
  res : ResTo P (heapAt p n0 H0 (ms.getD k 0) x.so.op (pl.take k)) x.v x.e (evOp P (tov allL 0 (pl.take k) T0) (heapAt p n0 H0 (ms.getD k 0) x.so.op (pl.take k)) ((n0 + k) :: p) x.so.op)
  old : oldIn x.e (heapAt p n0 H0 (ms.getD k 0) x.so.op (pl.take k))
  c3 : ∀ j y, (pl.take k)[j]? = some y → (ms.getD k 0).testBit j = false → ∀ z ∈ wrs y.e ((n0 + j) :: p), hget (heapAt p n0 H0 (ms.getD k 0) x.so.op (pl.take k)) z = none
  c4 : ∀ j y, (pl.take k)[j]? = some y → (n0 + k) :: p ∉ wrs y.e ((n0 + j) :: p)
  c5 : ∀ j y, (pl.take k)[j]? = some y → (ms.getD k 0).testBit j = false → y.ran = true → usesH y.so.op = true → ∀ z ∈ wrs x.e ((n0 + k) :: p), hget (heapAt p n0 H0 (ms.getD j 0) y.so.op ((pl.take k).take j)) z = none
theorem take_get {α : Type} {l : List α} {j k : Nat} {y : α} (h : l[j]? = some y) (hj : j < k) : (l.take k)[j]? = some y := by
  rw [List.getElem?_take_of_lt hj]; exact h
theorem PFact.run {P : Program} {p : Id} {n0 : Nat} {H0 : Hp} {T0 : Tm} {ms : List Nat} {pl : List PStep} {k : Nat} {x : PStep} (h : PFact P p n0 H0 T0 ms pl k x) (ht : ∀ j, j < k → (pl.take k).take j = pl.take j) :
    (x.so.g = none ∧ x.ran = true ∧ PRun P p n0 H0 T0 ms pl k x) ∨
    ∃ t b, x.so.g = some (t, b) ∧ ((tget (tov allL 0 (pl.take k) T0) t = .tv (.bool b) ∧ x.ran = true ∧ PRun P p n0 H0 T0 ms pl k x) ∨ ((tget (tov allL 0 (pl.take k) T0) t = .tv (.bool !b) ∨ tget (tov allL 0 (pl.take k) T0) t = .tup []) ∧ x.ran = false ∧ x.v = .tup [] ∧ x.e = .no)) := by
  have fix : ∀ j (y : PStep), (pl.take k)[j]? = some y → (pl.take k).take j = pl.take j := fun j y hj => ht j (by
    have := (List.getElem?_eq_some_iff.1 hj).1
    simp at this; omega)
  unfold PFact at h
  cases hg : x.so.g with
  | none =>
    rw [hg] at h
    obtain ⟨a, b, c, d, e, f⟩ := h
    exact .inl ⟨rfl, a, b, c, d, e, fun j y hj => by rw [fix j y hj]; exact f j y hj⟩
  | some tb =>
    obtain ⟨t, b⟩ := tb
    rw [hg] at h
    refine .inr ⟨t, b, rfl, ?_⟩
    rcases h with ⟨g, a, b, c, d, e, f⟩ | h
    · exact .inl ⟨g, a, b, c, d, e, fun j y hj => by rw [fix j y hj]; exact f j y hj⟩
    · exact .inr h
theorem upd_ne (L : Nat → Bool) (i : Nat) : ∀ j, j ≠ i → (fun k => L k || k == i) j = L j := by
  intro j hj
  simp [hj]
section
variable {E : En} {B : Base} {w0 w : World} {σ0 : Facts} {ι0 : Where} {q : Id} {ds : List Deferred} {p : Id} {n0 : Nat} {pl : List PStep} {T0 : Tm} {H0 : Hp} {L L' : Nat → Bool} {a : Act} {σ : Facts} {ι : Where}
  {ops : Array Oper} {os : List SOp} {ms : List Nat} {Q : Exit → Act → World → Prop}
theorem draw_step (hD : DOk ops os ms) (hlen : pl.length = ops.size) (hso : pl.map (·.so) = os) (hf : ∀ k x, pl[k]? = some x → PFact E.P p n0 H0 T0 ms pl k x)
    (hos : ∀ (k : Nat) o, ops[k]? = some o → operOk E.nt o = true ∧ ∃ so, os[k]? = some so ∧ slimOp ops o = some so)
    (hs : DInv E B w0 σ0 ι0 q ds p n0 pl T0 H0 L a w σ ι) (hclo : ∀ i, L i = true → ∀ j, (ms.getD i 0).testBit j = true → L j = true)
    {i : Nat} {o : Oper} (ho : ops[i]? = some o) (hi : L i = false) (hm : ∀ j, (ms.getD i 0).testBit j = true → L j = true)
    (hL' : ∀ j, j ≠ i → L' j = L j) (hLi : L' i = true)
    {K : Act → World → Prop} (hK : ∀ a' w' σ' ι', DInv E B w0 σ0 ι0 q ds p n0 pl T0 H0 L' a' w' σ' ι' → K a' w') : wpOpIn E.F 0 E.P ops Q i K a w := by
  have hisz : i < ops.size := (Array.getElem?_eq_some_iff.1 ho).1
  obtain ⟨hok, so, hsoi, hslim⟩ := hos i o ho
  have hx : ∃ x, pl[i]? = some x ∧ x.so = so := by
    rw [← hso, List.getElem?_map] at hsoi
    cases hp : pl[i]? with
    | none => rw [hp] at hsoi; cases hsoi
    | some x => rw [hp] at hsoi; simp at hsoi; exact ⟨x, rfl, hsoi⟩
  obtain ⟨x, hx, hxso⟩ := hx
  have hosx : ∀ (j : Nat) (y : PStep), pl[j]? = some y → os[j]? = some y.so := fun j y hy => by rw [← hso, List.getElem?_map, hy]; rfl
  have hjsz : ∀ (j : Nat) (y : PStep), pl[j]? = some y → j < ops.size := fun j y hy => by rw [← hlen]; exact (List.getElem?_eq_some_iff.1 hy).1
  have htake : ∀ k j, j < k → (pl.take k).take j = pl.take j := fun k j h => by rw [List.take_take, Nat.min_eq_left (by omega)]
  have hfacts := fun (j : Nat) (y : PStep) (hy : pl[j]? = some y) => (hf j y hy).run (fun m hm => htake j m hm)
  -- what is not listed before i, and what is listed behind it
  have later : ∀ j, i < j → L j = true → (ms.getD j 0).testBit i = false := fun j _ hl => by
    cases hb : (ms.getD j 0).testBit i with
    | false => rfl
    | true => have := hclo j hl i hb; rw [hi] at this; cases this
  -- the temporaries that i looks at
  have hT : ∀ t, (t ∈ opTmps x.so.op ∨ t ∈ gTmps x.so.g) → tget (tov L 0 pl T0) t = tget (tov allL 0 (pl.take i) T0) t := by
    intro t ht
    rw [tov_fz, tov_fz, fz_take]
    refine fz_congr _ _ _ fun j y hy hl z => ?_
    simp only [Nat.zero_add, allL, Bool.true_and] at hl ⊢
    simp only [tact]
    by_cases hd : y.so.dst = some t
    · exfalso
      have hji : j ≠ i ∨ j = i := by omega
      rcases hji with hji | rfl
      · rcases hD.d3 i j x.so y.so t hisz (hjsz j y hy) hji (hosx i x hx) (hosx j y hy) hd (ht.imp id .inl) with ⟨h1, h2⟩ | ⟨h1, h2⟩
        · apply hl; rw [hm j h2]; simp [h1]
        · have hn : ¬ j < i := by omega
          have : L j = true := by
            revert hl; cases L j <;> simp [hn]
          rw [later j h1 this] at h2; cases h2
      · apply hl; rw [hi]; simp
    · rw [if_neg hd]
  have hTo : ∀ t, (t ∈ opTmps x.so.op ∨ t ∈ gTmps x.so.g) → tget (tov allL 0 (pl.take i) T0) t = tget (tov L 0 pl T0) t := fun t ht => (hT t ht).symm
  -- the new temporaries
  have hT' : ∀ t, tget (tov L' 0 pl T0) t = tget (tset x.so.dst x.v (tov L 0 pl T0)) t := by
    intro t
    have h1 : fz (tact t) L' 0 pl (tget T0 t) = tact t (0 + i) x (fz (tact t) L 0 pl (tget T0 t)) := by
      refine fz_put pl 0 i x _ hx (by simpa using hi) (fun j hj => hL' j (by simpa using hj)) (by simpa using hLi) ?_
      by_cases hd : x.so.dst = some t
      · right
        intro j y hy hij hl z
        simp only [Nat.zero_add] at hl ⊢
        simp only [tact]
        by_cases hdy : y.so.dst = some t
        · exfalso
          rcases hD.d3 i j x.so y.so t hisz (hjsz j y hy) (by omega) (hosx i x hx) (hosx j y hy) hdy (.inr (.inr hd)) with ⟨h1, h2⟩ | ⟨h1, h2⟩
          · omega
          · rw [later j h1 hl] at h2; cases h2
        · rw [if_neg hdy]
      · left; intro z; simp only [tact]; rw [if_neg hd]
    rw [tov_fz, h1, ← tov_fz]
    simp only [tact, tset]
    cases hd : x.so.dst with
    | none => simp
    | some d => simp only [tget, Option.some.injEq]
  -- the new heap
  have hH' : ∀ z, hget (hov p n0 L' 0 pl H0) z = hget (x.e.app (hov p n0 L 0 pl H0) ((n0 + i) :: p)) z := by
    intro z
    have h1 : fz (gact p n0 z) L' 0 pl (hget H0 z) = gact p n0 z (0 + i) x (fz (gact p n0 z) L 0 pl (hget H0 z)) := by
      refine fz_put pl 0 i x _ hx (by simpa using hi) (fun j hj => hL' j (by simpa using hj)) (by simpa using hLi) ?_
      by_cases hz : z ∈ wrs x.e ((n0 + i) :: p)
      · right
        intro j y hy hij hl u
        simp only [Nat.zero_add] at hl ⊢
        refine hact_out (fun hzy => ?_) u
        have run : PRun E.P p n0 H0 T0 ms pl j y → False := by
          intro hr
          have hb := later j hij hl
          have hnone := hr.c3 i x (take_get hx hij) hb
          have h4 := hr.c4 i x (take_get hx hij)
          have hold := hr.old
          cases hye : y.e with
          | no => rw [hye] at hzy; simp [wrs] at hzy
          | new _ =>
            rw [hye] at hzy; simp [wrs] at hzy
            subst hzy; exact h4 hz
          | upd k _ =>
            rw [hye] at hzy hold; simp [wrs] at hzy
            subst hzy
            simp only [oldIn] at hold
            rw [hnone z hz] at hold; cases hold
          | repl k _ =>
            rw [hye] at hzy hold; simp [wrs] at hzy
            rcases hzy with rfl | rfl
            · simp only [oldIn] at hold
              rw [hnone z hz] at hold; cases hold
            · exact h4 hz
        rcases hfacts j y hy with ⟨_, _, hr⟩ | ⟨_, _, _, ⟨_, _, hr⟩ | ⟨_, _, _, he⟩⟩
        · exact run hr
        · exact run hr
        · rw [he] at hzy; simp [wrs] at hzy
      · left; intro u; simp only [Nat.zero_add]; exact hact_out hz u
    rw [hov_fz, h1, ← hov_fz, hget_app]
    simp only [Nat.zero_add]; rfl
  have hd' : ∀ t, x.so.dst = some t → t < E.nt := by
    intro t ht
    simp only [operOk, Bool.and_eq_true] at hok
    have hdst : o.dst = x.so.dst := by
      rw [hxso]
      unfold slimOp at hslim
      split at hslim
      · simp at hslim; subst hslim; rfl
      · split at hslim
        · simp at hslim; subst hslim; rfl
        · cases hslim
    have := hok.1.2; rw [hdst, ht] at this; simpa using this
  have hdo : o.dst = x.so.dst ∧ o.op = x.so.op := by
    rw [hxso]
    unfold slimOp at hslim
    split at hslim
    · simp at hslim; subst hslim; exact ⟨rfl, rfl⟩
    · split at hslim
      · simp at hslim; subst hslim; exact ⟨rfl, rfl⟩
      · cases hslim
  have hfre : ∀ j, ((n0 + i) :: p) <:+ j → ι j = none := fun j hj => hs.fr j i hi hj
  have fin : ∀ u w' σ' ι', VR σ' ι' x.v u → WR B w0 σ' ι' (x.e.app (hov p n0 L 0 pl H0) ((n0 + i) :: p)) w' → (∀ x y, σ x y → σ' x y) → (∀ j y, ι j = some y → ι' j = some y) → (∀ j, ¬ ((n0 + i) :: p) <:+ j → ι' j = ι j) → K (a.put o.dst u) w' := by
    intro u w' σ' ι' hv hw h1 h2 h3
    rw [hdo.1]
    refine hK _ _ σ' ι' ⟨fun x y hx => h1 _ _ (hs.le x y hx), fun j y hj => h2 _ _ (hs.lei j y hj), fun j hj => ?_, hw.weaken (fun z o hz => by rw [← hH']; exact hz), ?_, ?_, hs.qp, fun j k hk hj => ?_, ?_, hs.nk⟩
    · rw [h3 j (fun h => hj ((hs.qp.trans (List.suffix_cons _ _)).trans h))]; exact hs.out j hj
    · refine TRel.congr (T := tset x.so.dst x.v (tov L 0 pl T0)) ?_ hT'
      exact TRel.put (fun t => (hs.tr t).mono h1 h2) (fun t e => by rw [hs.nt]; exact hd' t e) hv
    · cases x.so.dst <;> simp [Act.put, hs.nt]
    · have hki : k ≠ i := fun e => by subst e; rw [hLi] at hk; cases hk
      rw [h3 j (fun h => by have := suffix_cons_ne hj h; omega)]
      exact hs.fr j k (by rw [← hL' k hki]; exact hk) hj
    · have := hs.df.mono h1 h2
      cases x.so.dst <;> exact this
  -- a carried out operation
  have runs : x.ran = true → PRun E.P p n0 H0 T0 ms pl i x → o.wpIn E.F 0 E.P a w K Q := by
    intro hran hr
    have hsub : Sub (heapAt p n0 H0 (ms.getD i 0) x.so.op (pl.take i)) (hov p n0 L 0 pl H0) := by
      intro z ao hz
      have hc3 := hr.c3
      cases hu : usesH x.so.op with
      | false => unfold heapAt at hz; rw [hu] at hz; simp [hget] at hz
      | true =>
        have hz0 := hz
        have hat : heapAt p n0 H0 (ms.getD i 0) x.so.op (pl.take i) = hov p n0 (fun j => (ms.getD i 0).testBit j) 0 (pl.take i) H0 := by unfold heapAt; rw [hu]; rfl
        rw [hat, hov_fz, fz_take] at hz
        rw [hov_fz, ← hz]
        refine fz_congr _ _ _ fun j y hy hl u => ?_
        simp only [Nat.zero_add] at hl ⊢
        refine hact_out (fun hzy => ?_) u
        by_cases hji : j < i
        · cases hb : (ms.getD i 0).testBit j with
          | true => apply hl; rw [hm j hb, hb]; simp [hji]
          | false =>
            have := hc3 j y (take_get hy hji) hb z hzy
            rw [this] at hz0; cases hz0
        · have hl' : L j = true := by revert hl; cases L j <;> simp [hji]
          have hne : j ≠ i := fun e => by subst e; rw [hi] at hl'; cases hl'
          have hij : i < j := by omega
          have run : PRun E.P p n0 H0 T0 ms pl j y → False := by
            intro hrj
            have := hrj.c5 i x (take_get hx hij) (later j hij hl') hran hu z hzy
            rw [htake j i hij, hz0] at this; cases this
          rcases hfacts j y hy with ⟨_, _, hr⟩ | ⟨_, _, _, ⟨_, _, hr⟩ | ⟨_, _, _, he⟩⟩
          · exact run hr
          · exact run hr
          · rw [he] at hzy; simp [wrs] at hzy
    have hres := hr.res
    rw [evOp_congr (T' := tov L 0 pl T0) (fun t ht => hTo t (.inl ht))] at hres
    have hres' : ResTo E.P (hov p n0 L 0 pl H0) x.v x.e (evOp E.P (tov L 0 pl T0) (hov p n0 L 0 pl H0) ((n0 + i) :: p) o.op) := by
      rw [hdo.2]
      rcases evOp_mono (P := E.P) (T := tov L 0 pl T0) (id := (n0 + i) :: p) (op := x.so.op) hsub with h | h
      · rw [h] at hres; exact hres.elim
      · rw [h]; exact hres.mono hsub
    exact step_res hs.wr hs.tr hfre hok hres' fin
  unfold wpOpIn
  simp only [ho]
  have hg : ∀ t b, x.so.g = some (t, b) → ∃ j, o.guard = some (j, b) ∧ (ops[j]?).bind (·.dst) = some t := by
    intro t b hg
    rw [hxso] at hg
    unfold slimOp at hslim
    split at hslim
    · simp at hslim; subst hslim; cases hg
    · rename_i j b' hgo
      split at hslim
      · rename_i t' ht'
        simp at hslim; subst hslim
        simp only [Option.some.injEq, Prod.mk.injEq] at hg
        obtain ⟨rfl, rfl⟩ := hg
        exact ⟨j, hgo, ht'⟩
      · cases hslim
  rcases hfacts i x hx with ⟨hgn, hran, hr⟩ | ⟨t, b, hgs, h⟩
  · have hw : Region.wanted o (yielded ops a.tmps) = true := by
      have : o.guard = none := by
        rw [hxso] at hgn
        unfold slimOp at hslim
        split at hslim
        · assumption
        · split at hslim
          · simp at hslim; subst hslim; cases hgn
          · cases hslim
      simp [Region.wanted, this]
    rw [if_pos hw]
    exact runs hran hr
  · have hTt := hT t (.inr (by rw [hgs]; simp [gTmps]))
    obtain ⟨j, hgo, hdj⟩ := hg t b hgs
    rcases h with ⟨hcb, hran, hr⟩ | ⟨hcb, hran, hv, he⟩
    · rw [← hTt] at hcb
      have hy := yielded_of (ops := ops) hs.tr hdj hcb
      rw [if_pos (by simp [Region.wanted, hgo, hy])]
      exact runs hran hr
    · rw [← hTt] at hcb
      have hw : Region.wanted o (yielded ops a.tmps) = false := by
        rcases hcb with hcb | hcb
        · have hy := yielded_of (ops := ops) hs.tr hdj hcb
          simp [Region.wanted, hgo, hy]
        · have hy := yielded_none (ops := ops) hs.tr hdj hcb
          simp [Region.wanted, hgo, hy]
      rw [if_neg (by rw [hw]; simp)]
      refine ⟨fun _ _ => trivial, fin undef w σ ι ?_ ?_ (fun _ _ h => h) (fun _ _ h => h) (fun _ _ => rfl)⟩
      · rw [hv]; exact .tup [] [] rfl (fun j c u h _ => by simp at h)
      · rw [he]; exact hs.wr
theorem count_set {l : List Bool} : ∀ {i : Nat}, l[i]? = some false → (l.set i true).count false + 1 = l.count false := by
  induction l with
  | nil => intro i h; simp at h
  | cons b l ih =>
    intro i h
    cases i with
    | zero => simp at h; subst h; simp
    | succ i => simp at h; have := ih h; simp only [List.set_cons_succ, List.count_cons]; omega
theorem draw_any (hD : DOk ops os ms) (hlen : pl.length = ops.size) (hso : pl.map (·.so) = os) (hf : ∀ k x, pl[k]? = some x → PFact E.P p n0 H0 T0 ms pl k x)
    (hos : ∀ (k : Nat) o, ops[k]? = some o → operOk E.nt o = true ∧ ∃ so, os[k]? = some so ∧ slimOp ops o = some so)
    (hQ : ∀ a w σ ι, DInv E B w0 σ0 ι0 q ds p n0 pl T0 H0 (fun k => decide (k < ops.size)) a w σ ι → Q .normal a w) :
    ∀ (fuel : Nat) (listed : Array Bool) (a : Act) (w : World) (σ : Facts) (ι : Where), listed.size = ops.size → listed.toList.count false ≤ fuel →
      (∀ i, listed.getD i false = true → ∀ j, (ms.getD i 0).testBit j = true → listed.getD j false = true) →
      DInv E B w0 σ0 ι0 q ds p n0 pl T0 H0 (fun k => listed.getD k false) a w σ ι → wpAnyIn E.F 0 E.P .any ops Q fuel listed a w := by
  have hall : ∀ (listed : Array Bool), listed.size = ops.size → Region.ready .any ops listed = [] → ∀ k, listed.getD k false = decide (k < ops.size) := by
    intro listed hsz hr k
    induction k using Nat.strongRecOn with
    | _ k ih =>
      by_cases hk : k < ops.size
      · cases hl : listed.getD k false with
        | true => simp [hk]
        | false =>
          exfalso
          have hmem : k ∈ Region.ready .any ops listed := by
            rw [mem_ready]
            refine ⟨?_, ops[k], by simp [hk], fun e he hb => ?_⟩
            · rw [Array.getD_eq_getD_getElem?, Array.getElem?_eq_getElem (by rw [hsz]; exact hk)] at hl ⊢
              exact hl
            · have hlt := hD.d0 k ops[k] (by simp [hk]) e he hb
              rw [ih e.on hlt]
              simp; omega
          rw [hr] at hmem; cases hmem
      · rw [Array.getD_eq_getD_getElem?, Array.getElem?_eq_none (by rw [hsz]; omega)]
        simp [hk]
  have done : ∀ (listed : Array Bool) a w σ ι, listed.size = ops.size → DInv E B w0 σ0 ι0 q ds p n0 pl T0 H0 (fun k => listed.getD k false) a w σ ι → Region.ready .any ops listed = [] → Q .normal a w := by
    intro listed a w σ ι hsz hs hr
    refine hQ a w σ ι ?_
    have : (fun k => listed.getD k false) = (fun k => decide (k < ops.size)) := funext fun k => hall listed hsz hr k
    rw [← this]; exact hs
  intro fuel
  induction fuel with
  | zero =>
    intro listed a w σ ι hsz hc hclo hs
    have hr : Region.ready .any ops listed = [] := by
      cases hr : Region.ready .any ops listed with
      | nil => rfl
      | cons i r =>
        exfalso
        have hm : i ∈ Region.ready .any ops listed := by rw [hr]; simp
        rw [mem_ready] at hm
        obtain ⟨h0, o, ho, _⟩ := hm
        have hi : i < listed.size := by rw [hsz]; exact (Array.getElem?_eq_some_iff.1 ho).1
        have h1 : false ∈ listed.toList := by
          rw [Array.getD_eq_getD_getElem?, Array.getElem?_eq_getElem hi] at h0
          simp only [Option.getD_some] at h0
          rw [← h0]; simp
        have := List.count_pos_iff.2 h1
        omega
    exact ⟨hr, done listed a w σ ι hsz hs hr⟩
  | succ fuel ih =>
    intro listed a w σ ι hsz hc hclo hs
    refine ⟨fun hr => done listed a w σ ι hsz hs hr, fun i hi => ?_⟩
    rw [mem_ready] at hi
    obtain ⟨h0, o, ho, hedge⟩ := hi
    have hisz : i < listed.size := by rw [hsz]; exact (Array.getElem?_eq_some_iff.1 ho).1
    have h0' : listed.getD i false = false := by
      rw [Array.getD_eq_getD_getElem?, Array.getElem?_eq_getElem hisz] at h0 ⊢; exact h0
    have hm : ∀ j, (ms.getD i 0).testBit j = true → listed.getD j false = true := by
      intro j hj
      obtain ⟨e, he, hb, hor⟩ := hD.d1 i o ho j hj
      rcases hor with rfl | hor
      · exact hedge e he hb
      · exact hclo e.on (hedge e he hb) j hor
    have hne : ∀ j, j ≠ i → (listed.setIfInBounds i true).getD j false = listed.getD j false := fun j hj => getD_set_ne false (Ne.symm hj)
    have heq : (listed.setIfInBounds i true).getD i false = true := by
      rw [Array.getD_eq_getD_getElem?, Array.getElem?_setIfInBounds_self_of_lt hisz]; rfl
    refine draw_step hD hlen hso hf hos hs hclo ho h0' hm hne heq (fun a' w' σ' ι' hs' => ih _ a' w' σ' ι' (by simp [hsz]) ?_ ?_ hs')
    · have hl : listed.toList[i]? = some false := by
        rw [Array.getD_eq_getD_getElem?, Array.getElem?_eq_getElem hisz] at h0
        simp only [Option.getD_some] at h0
        simp [hisz, h0]
      have hcnt : (listed.setIfInBounds i true).toList.count false + 1 = listed.toList.count false := by
        rw [Array.toList_setIfInBounds]
        exact count_set hl
      omega
    · intro k hk j hj
      by_cases hji : j = i
      · subst hji; exact heq
      · rw [hne j hji]
        by_cases hki : k = i
        · subst hki; exact hm j hj
        · rw [hne k hki] at hk; exact hclo k hk j hj
end
theorem repl_false (n k : Nat) : (Array.replicate n false).getD k false = false := by
  rw [Array.getD_eq_getD_getElem?, Array.getElem?_replicate]
  split <;> rfl
/-- A region that draws its order. -/
theorem at_draw {E : En} {id : Nat} {ops : Array Oper} {os : List SOp} {Q : Exit → St → Prop} {T : Tm} {H : Hp} {p : Id} {n : Nat} (ms : List Nat) (hmix : E.P.follows .mixedOrders = true) (hsl : slim E.nt ops = some os) (hok : drawOk ops os ms = true)
    (h : evd E.P p n H os ms 0 T [] [] (fun T' H' n' => Q .normal ⟨T', H', p, n'⟩)) : AT E (.region id ops true) Q ⟨T, H, p, n⟩ := by
  rintro B w0 σ0 ι0 q ds a w ⟨σ, ι, hs⟩
  have hall : ops.toList.all (operOk E.nt) = true ∧ slims ops ops.toList = some os := by
    unfold slim at hsl
    split at hsl
    · rename_i hall; exact ⟨hall, hsl⟩
    · cases hsl
  obtain ⟨h1, h2⟩ := slims_get _ _ _ hall.2
  have hos : ∀ (k : Nat) o, ops[k]? = some o → operOk E.nt o = true ∧ ∃ so, os[k]? = some so ∧ slimOp ops o = some so := by
    intro k o ho
    have hk : k < os.length := by rw [h1]; simpa using (Array.getElem?_eq_some_iff.1 ho).1
    refine ⟨?_, os[k], by simp [hk], ?_⟩
    · have := hall.1
      rw [List.all_eq_true] at this
      exact this o (by simpa using Array.mem_of_getElem? ho)
    · obtain ⟨x, hx, hsx⟩ := h2 k os[k] (by simp [hk])
      have : x = o := by
        have hx' : ops[k]? = some x := by simpa using hx
        rw [ho] at hx'; exact (Option.some.inj hx').symm
      rw [← this]; exact hsx
  obtain ⟨pl, hso, hf, hK⟩ := evd_plan (P := E.P) (p := p) (n0 := n) (H0 := H) (T0 := T) ms os [] [] (fun k x hk => by simp at hk) (fun j y hj => by simp at hj) h
  simp only [List.map_nil, List.nil_append] at hso
  have hlen : pl.length = ops.size := by
    have := congrArg List.length hso
    simp at this; rw [this, h1]; simp
  refine wpIn_region_any hmix (draw_any (B := B) (w0 := w0) (σ0 := σ0) (ι0 := ι0) (q := q) (ds := ds) (drawOk_spec hok) hlen hso hf hos ?_ ops.size (Array.replicate ops.size false) a _ σ ι (by simp) ?_ ?_ ?_)
  · intro a' w' σ' ι' hs'
    have hfz : ∀ {X : Type} (act : Nat → PStep → X → X) (x : X), fz act allL 0 pl x = fz act (fun k => decide (k < ops.size)) 0 pl x := fun act x => fz_congr _ _ _ fun j y hy hl => absurd (by
      have := (List.getElem?_eq_some_iff.1 hy).1
      simp [allL]; omega) hl
    refine ⟨_, hK, σ', ι', hs'.le, hs'.lei, hs'.out, hs'.wr.weaken (fun z o hz => ?_), hs'.tr.congr (fun t => ?_), hs'.nt, hs'.qp, fun j k hk hj => ?_, hs'.df.same ?_, hs'.nk⟩
    · rw [hov_fz] at hz ⊢; rw [← hfz]; exact hz
    · rw [tov_fz, tov_fz, hfz]
    · have hk' : n + pl.length ≤ k := hk
      have := hs'.fr j (k - n) (by simp; omega)
      rw [show n + (k - n) = k by omega] at this
      exact this hj
    · rw [tov_fz]
      refine fz_out _ _ _ fun j y hy _ z => ?_
      have hosj : os[j]? = some y.so := by rw [← hso, List.getElem?_map, hy]; rfl
      have hj : j < ops.size := by rw [← hlen]; exact (List.getElem?_eq_some_iff.1 hy).1
      obtain ⟨hopk, so, hso', hsl'⟩ := hos j ops[j] (by simp [hj])
      rw [hosj] at hso'; cases hso'
      have hdo : ops[j].dst = y.so.dst := by
        unfold slimOp at hsl'
        split at hsl'
        · simp only [Option.some.injEq] at hsl'; rw [← hsl']
        · split at hsl'
          · simp only [Option.some.injEq] at hsl'; rw [← hsl']
          · cases hsl'
      simp only [operOk, Bool.and_eq_true] at hopk
      have h3 := hopk.1.2
      have hnk := hs.nk
      simp only [tact]
      rw [hdo] at h3
      cases hd : y.so.dst with
      | none => simp
      | some t =>
        rw [hd] at h3
        simp at h3
        rw [if_neg (fun e => Nat.ne_of_lt (Nat.lt_of_lt_of_le h3 hnk) (Option.some.inj e))]
  · rw [Array.toList_replicate]
    simp [List.count_replicate]
  · intro i hi
    rw [repl_false] at hi; cases hi
  · have hf0 : ∀ {X : Type} (act : Nat → PStep → X → X) (x : X), fz act (fun k => (Array.replicate ops.size false).getD k false) 0 pl x = x := fun act x => fz_out _ _ _ fun j y hy hl => by
      simp only [repl_false] at hl; cases hl
    refine ⟨hs.le, hs.lei, hs.out, ?_, ?_, hs.nt, hs.qp, ?_, hs.df, hs.nk⟩
    · exact (hs.wr.drawn _).weaken (fun z o hz => by rw [hov_fz, hf0] at hz; exact hz)
    · exact hs.tr.congr fun t => by rw [tov_fz, hf0]
    · intro j k _ hj
      exact hs.fr j (n + k) (by show n ≤ n + k; omega) hj
theorem evd_mono {P : Program} {p : Id} {n0 : Nat} {H0 : Hp} {K K' : Tm → Hp → Nat → Prop} (hk : ∀ T H n, K T H n → K' T H n) : ∀ {os : List SOp} {ms : List Nat} {k : Nat} {T : Tm} {E : List (Nat × Eff)} {U : List (Nat × Hp)},
    evd P p n0 H0 os ms k T E U K → evd P p n0 H0 os ms k T E U K' := by
  have rmono : ∀ {r : Res} {H : Hp} {K K' : AV → Eff → Prop}, (∀ v e, K v e → K' v e) → evdR P H K r → evdR P H K' r := by
    intro r
    induction r with
    | val v e => intro H K K' hk h; exact hk _ _ h
    | need c r ih => intro H K K' hk h; exact ⟨h.1, ih hk h.2⟩
    | call f args =>
      rintro H K K' hk (⟨v, h1, h2⟩ | ⟨a, i, o, v, h1, h2, h3⟩)
      · exact .inl ⟨v, h1, hk _ _ h2⟩
      · exact .inr ⟨a, i, o, v, h1, h2, hk _ _ h3⟩
    | yld i args => intro H K K' hk h; exact h
    | fail => intro H K K' hk h; exact h
  intro os
  induction os with
  | nil => intro ms k T E U h; exact hk _ _ _ h
  | cons o os ih =>
    intro ms k T E U h
    obtain ⟨d, op, g⟩ := o
    cases ms with
    | nil => cases g <;> simp [evd] at h
    | cons m ms =>
      cases g with
      | none =>
        simp only [evd] at h ⊢
        exact ⟨h.1, rmono (fun v e h => ⟨h.1, h.2.1, ih h.2.2⟩) h.2⟩
      | some tb =>
        obtain ⟨t, b⟩ := tb
        simp only [evd] at h ⊢
        split at h
        · exact ⟨fun e => ⟨(h.1 e).1, rmono (fun v e h => ⟨h.1, h.2.1, ih h.2.2⟩) (h.1 e).2⟩, fun e => ih (h.2 e)⟩
        · exact ih h
        · exact h.elim
/-- A drawn region and what follows. -/
theorem at_drw {E : En} {Q : Exit → St → Prop} {id : Nat} {ops : Array Oper} {d : Code} {os : List SOp} {T : Tm} {H : Hp} {p : Id} {n : Nat} (l : List Nat) (ms : List Nat) (hmix : E.P.follows .mixedOrders = true) (hsl : slim E.nt ops = some os) (hok : drawOk ops os ms = true)
    (h : ∀ K : Tm → Hp → Nat → Prop, (∀ T' H' n', AT E d Q ⟨T', H', p, n'⟩ → K T' H' n') → evd E.P p n H os ms 0 T [] [] (fun T' H' n' => K (tkeep l T') H' n')) : AT E (.seq (.region id ops true) d) Q ⟨T, H, p, n⟩ :=
  at_seq (at_draw ms hmix hsl hok (evd_mono (fun _ _ _ hk => at_pre (Gh.keep l _ _ _ _) hk) (h (fun T' H' n' => AT E d Q ⟨T', H', p, n'⟩) (fun _ _ _ h => h))))
theorem at_drwl {E : En} {Q : Exit → St → Prop} {id : Nat} {ops : Array Oper} {os : List SOp} {T : Tm} {H : Hp} {p : Id} {n : Nat} (l : List Nat) (ms : List Nat) (hmix : E.P.follows .mixedOrders = true) (hsl : slim E.nt ops = some os) (hok : drawOk ops os ms = true)
    (h : ∀ K : Tm → Hp → Nat → Prop, (∀ T' H' n', Q .normal ⟨T', H', p, n'⟩ → K T' H' n') → evd E.P p n H os ms 0 T [] [] (fun T' H' n' => K (tkeep l T') H' n')) : AT E (.region id ops true) Q ⟨T, H, p, n⟩ :=
  at_post (Q' := fun e s => e = .normal ∧ ∃ T' H' n', s = ⟨T', H', p, n'⟩ ∧ Q .normal ⟨tkeep l T', H', p, n'⟩) (at_draw ms hmix hsl hok (evd_mono (fun T' H' n' hk => ⟨rfl, T', H', n', rfl, hk⟩) (h (fun T' H' n' => Q .normal ⟨T', H', p, n'⟩) (fun _ _ _ h => h))))
    (fun e s ⟨he, T', H', n', hs, hq⟩ => ⟨⟨tkeep l T', H', p, n'⟩, by subst hs; exact Gh.keep l _ _ _ _, by subst he; exact hq⟩)
end Go.Proofs.Ythmimpiegnnmdaa
