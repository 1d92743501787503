/- Ids told anew: what a loop's round begins with has ids of its own choice. -/
import Derived.Test.YthmimpiegnnmdaaAbs21
namespace Go.Proofs.Ythmimpiegnnmdaa
open Go.RowKit
set_option linter.unusedSimpArgs false
set_option linter.unusedVariables false

mutual
def AV.rn (s : Id → Option Id) : AV → AV
  | .tv t => .tv t
  | .ptr i off => match s i with
    | some j => .ptr j off
    | none => .any
  | .sl i sz off len => match s i with
    | some j => .sl j sz off len
    | none => .any
  | .map i => match s i with
    | some j => .map j
    | none => .any
  | .fn f cs => .fn f (AV.rnL s cs)
  | .iface t v => .iface t (AV.rn s v)
  | .agg cs => .agg (AV.rnL s cs)
  | .tup vs => .tup (AV.rnL s vs)
  | .yl i => match s i with
    | some j => .yl j
    | none => .any
  | .ds _ => .any
  | .any => .any
def AV.rnL (s : Id → Option Id) : List AV → List AV
  | [] => []
  | v :: r => AV.rn s v :: AV.rnL s r
end
theorem rnL_map (s : Id → Option Id) (l : List AV) : AV.rnL s l = l.map (AV.rn s) := by
  induction l with
  | nil => rfl
  | cons v r ih => simp only [AV.rnL, List.map_cons, ih]
theorem VR.rn {σ : Facts} {ι ι' : Where} {s : Id → Option Id} (h : ∀ i j, s i = some j → ∀ x, ι i = some x → ι' j = some x) {v : AV} {u : Value} (hv : VR σ ι v u) : VR σ ι' (v.rn s) u := by
  have lst : ∀ {cs : List AV} {us : List Value}, (∀ (j : Nat) (c : AV) (u : Value), cs[j]? = some c → us[j]? = some u → VR σ ι' (c.rn s) u) →
      ∀ (j : Nat) (c : AV) (u : Value), (AV.rnL s cs)[j]? = some c → us[j]? = some u → VR σ ι' c u := by
    intro cs us hv j c u h1 h2
    rw [rnL_map, List.getElem?_map] at h1
    cases hc : cs[j]? with
    | none => rw [hc] at h1; cases h1
    | some c' => rw [hc] at h1; cases h1; exact hv j c' u hc h2
  induction hv with
  | tv ht => exact .tv ht
  | ptr id off b n hi =>
    simp only [AV.rn]
    split
    · rename_i j e; exact .ptr j off b n (h _ _ e _ hi)
    · exact .any _
  | sl id sz off len b n cap hi hc hn hm =>
    simp only [AV.rn]
    split
    · rename_i j e; exact .sl j sz off len b n cap (h _ _ e _ hi) hc hn hm
    · exact .any _
  | sl0 id sz off A =>
    simp only [AV.rn]
    split
    · exact .sl0 _ sz off A
    · exact .any _
  | map id b n hi =>
    simp only [AV.rn]
    split
    · rename_i j e; exact .map j b n (h _ _ e _ hi)
    · exact .any _
  | fn f cs us hl _ ih => exact .fn f _ us (by rw [rnL_map, List.length_map]; exact hl) (lst ih)
  | iface t v u _ ih => exact .iface t _ u ih
  | agg cs us hl _ ih => exact .agg _ us (by rw [rnL_map, List.length_map]; exact hl) (lst ih)
  | tup cs us hl _ ih => exact .tup _ us (by rw [rnL_map, List.length_map]; exact hl) (lst ih)
  | yl id b n hi =>
    simp only [AV.rn]
    split
    · rename_i j e; exact .yl j b n (h _ _ e _ hi)
    · exact .any _
  | ds l u => exact .any u
  | any u => exact .any u
def AO.rn (s : Id → Option Id) : AO → AO
  | .row cells ro => .row (AV.rnL s cells) ro
  | .smap es => .smap (es.map fun x => (x.1, AV.rn s x.2))
  | .loop T nt ps asg body st jump => .loop (T.map fun x => (x.1, AV.rn s x.2)) nt ps asg body st jump
  | .dfr => .dfr
  | .gone => .gone
theorem tget_rn (s : Id → Option Id) (T : Tm) (t : Nat) : tget (T.map fun x => (x.1, AV.rn s x.2)) t = (tget T t).rn s := by
  induction T with
  | nil => rfl
  | cons x r ih =>
    obtain ⟨k, v⟩ := x
    simp only [List.map_cons, tget]
    split
    · rfl
    · exact ih
theorem OR.rn {σ : Facts} {ι ι' : Where} {s : Id → Option Id} (h : ∀ i j, s i = some j → ∀ x, ι i = some x → ι' j = some x) {o : AO} {n : Nat} {obj : Obj} (ho : OR σ ι o n obj) : OR σ ι' (o.rn s) n obj := by
  cases o with
  | row cells ro =>
    obtain ⟨arr, e, h1, h2, h3, h4⟩ := ho
    refine ⟨arr, e, h1, h2, by rw [rnL_map, List.length_map]; exact h3, fun j c hc => ?_⟩
    rw [rnL_map, List.getElem?_map] at hc
    cases hc' : cells[j]? with
    | none => rw [hc'] at hc; cases hc
    | some c' =>
      rw [hc'] at hc; cases hc
      obtain ⟨u, hu, hv⟩ := h4 j c' hc'
      exact ⟨u, hu, hv.rn h⟩
  | smap es =>
    obtain ⟨arr, cl, h1, h2, h3⟩ := ho
    refine ⟨arr, cl, h1, by rw [List.length_map]; exact h2, fun j k v hc => ?_⟩
    rw [List.getElem?_map] at hc
    cases hc' : es[j]? with
    | none => rw [hc'] at hc; cases hc
    | some c' =>
      obtain ⟨k', v'⟩ := c'
      rw [hc'] at hc; cases hc
      obtain ⟨e, he, hk, hv⟩ := h3 j k' v' hc'
      exact ⟨e, he, hk, hv.rn h⟩
  | loop T nt ps asg body st jump =>
    obtain ⟨r, h1, h2, h3⟩ := ho
    refine ⟨r, h1, fun t => ?_, h3⟩
    rw [tget_rn]; exact (h2 t).rn h
  | dfr => exact ho
  | gone => exact ho
abbrev Sl := List (Id × Id)
def slk : Sl → Id → Option Id
  | [], _ => none
  | (i, j) :: r, k => if i = k then some j else slk r k
def sinv : Sl → Id → Option Id
  | [], _ => none
  | (i, j) :: r, k => if j = k then some i else sinv r k
def inNs (q : Id) (m0 : Nat) : Id → Bool
  | [] => false
  | k :: r => decide (r = q) && Nat.blt k m0
def sufB (q : Id) : Id → Bool
  | [] => decide (q = [])
  | k :: r => decide (q = k :: r) || sufB q r
def slOk (q : Id) (m0 : Nat) : Sl → Bool
  | [] => true
  | (i, j) :: r => ((decide (i = j) && !sufB q j) || inNs q m0 j) && (sinv r j).isNone && slOk q m0 r
/-- A row of trees alone. -/
def clO : AO → Prop
  | .row cells _ => ∀ c ∈ cells, ∃ t, c = .tv t
  | .smap es => ∀ x ∈ es, ∃ t, x.2 = .tv t
  | _ => False
def clP (cl : List Id) : Hp → Prop
  | [] => True
  | (i, o) :: r => bif cl.any (fun j => decide (j = i)) then clO o ∧ clP cl r else clP cl r
theorem clP_get {cl : List Id} {H : Hp} (h : clP cl H) {i : Id} {o : AO} (ho : hget H i = some o) (hi : cl.any (fun j => decide (j = i)) = true) : clO o := by
  induction H with
  | nil => simp [hget] at ho
  | cons x r ih =>
    obtain ⟨k, y⟩ := x
    simp only [clP] at h
    simp only [hget] at ho
    split at ho
    · rename_i e; subst e; cases ho
      rw [hi] at h; exact h.1
    · cases hc : cl.any (fun j => decide (j = k)) with
      | true => rw [hc] at h; exact ih h.2 ho
      | false => rw [hc] at h; exact ih h ho
def rnO (s : Sl) (cl : List Id) (i : Id) (o : AO) : AO := bif cl.any (fun j => decide (j = i)) then o else o.rn (slk s)
def rnH (s : Sl) (cl : List Id) : Hp → Hp
  | [] => []
  | (i, o) :: r => match slk s i with
    | some j => (j, rnO s cl i o) :: rnH s cl r
    | none => rnH s cl r
theorem OR.cl {σ : Facts} {ι ι' : Where} {o : AO} {n : Nat} {obj : Obj} (hc : clO o) (ho : OR σ ι o n obj) : OR σ ι' o n obj := by
  cases o with
  | row cells ro =>
    obtain ⟨arr, e, h1, h2, h3, h4⟩ := ho
    refine ⟨arr, e, h1, h2, h3, fun j c hj => ?_⟩
    obtain ⟨u, hu, hv⟩ := h4 j c hj
    obtain ⟨t, rfl⟩ := hc c (List.mem_of_getElem? hj)
    cases hv with
    | tv hv => exact ⟨u, hu, .tv hv⟩
  | smap es =>
    obtain ⟨arr, cl, h1, h2, h3⟩ := ho
    refine ⟨arr, cl, h1, h2, fun j k v hj => ?_⟩
    obtain ⟨e, he, hk, hv⟩ := h3 j k v hj
    obtain ⟨t, ht⟩ := hc (k, v) (List.mem_of_getElem? hj)
    simp only at ht
    subst ht
    cases hv with
    | tv hv => exact ⟨e, he, hk, .tv hv⟩
  | _ => exact hc.elim
def isAny : AV → Bool
  | .any => true
  | _ => false
def rnB (q : Id) (m0 : Nat) (s : Sl) (cl : List Id) (l : List Nat) (T : Tm) (H : Hp) : Option (Tm × Hp) := match slOk q m0 s && isAny (tget T 1000000) with
  | true => some ((1000000, .any) :: l.map (fun t => (t, (tget T t).rn (slk s))), rnH s cl H)
  | false => none
theorem sufB_iff (q j : Id) : sufB q j = true ↔ q <:+ j := by
  induction j with
  | nil => simp [sufB]
  | cons k r ih =>
    simp only [sufB, Bool.or_eq_true, decide_eq_true_eq, ih]
    constructor
    · rintro (rfl | h)
      · exact List.suffix_refl _
      · exact h.trans (List.suffix_cons _ _)
    · rintro ⟨t, ht⟩
      cases t with
      | nil => exact .inl ht
      | cons a t => simp at ht; exact .inr ⟨t, ht.2⟩
theorem inNs_iff {q : Id} {m0 : Nat} {j : Id} (h : inNs q m0 j = true) : ∃ k, k < m0 ∧ j = k :: q := by
  cases j with
  | nil => cases h
  | cons k r =>
    simp only [inNs, Bool.and_eq_true, decide_eq_true_eq] at h
    exact ⟨k, Nat.le_of_ble_eq_true h.2, by rw [h.1]⟩
theorem slOk_spec {q : Id} {m0 : Nat} : ∀ {s : Sl}, slOk q m0 s = true → ∀ i j, slk s i = some j → sinv s j = some i ∧ ((i = j ∧ ¬ q <:+ j) ∨ ∃ k, k < m0 ∧ j = k :: q) := by
  intro s
  induction s with
  | nil => intro _ i j h; simp [slk] at h
  | cons x r ih =>
    obtain ⟨a, b⟩ := x
    intro h i j hl
    simp only [slOk, Bool.and_eq_true, Option.isNone_iff_eq_none] at h
    obtain ⟨⟨h1, h2⟩, h3⟩ := h
    simp only [slk] at hl
    simp only [sinv]
    split at hl
    · rename_i e; subst e; cases hl
      refine ⟨by rw [if_pos rfl], ?_⟩
      simp only [Bool.or_eq_true, Bool.and_eq_true, decide_eq_true_eq, Bool.not_eq_true'] at h1
      rcases h1 with ⟨h1, h4⟩ | h1
      · refine .inl ⟨h1, fun hs => ?_⟩
        rw [(sufB_iff q b).2 hs] at h4; cases h4
      · exact .inr (inNs_iff h1)
    · obtain ⟨g1, g2⟩ := ih h3 i j hl
      refine ⟨?_, g2⟩
      rw [if_neg]
      · exact g1
      · intro e; subst e; rw [h2] at g1; cases g1
theorem sinv_slk {s : Sl} {i j : Id} (h : sinv s j = some i) : (i, j) ∈ s := by
  induction s with
  | nil => simp [sinv] at h
  | cons x r ih =>
    obtain ⟨a, b⟩ := x
    simp only [sinv] at h
    split at h
    · rename_i e; subst e; cases h; simp
    · simp [ih h]
theorem slOk_mem {q : Id} {m0 : Nat} : ∀ {s : Sl}, slOk q m0 s = true → ∀ i j, (i, j) ∈ s → (i = j ∧ ¬ q <:+ j) ∨ ∃ k, k < m0 ∧ j = k :: q := by
  intro s
  induction s with
  | nil => intro _ i j h; simp at h
  | cons x r ih =>
    obtain ⟨a, b⟩ := x
    intro h i j hl
    simp only [slOk, Bool.and_eq_true] at h
    obtain ⟨⟨h1, _⟩, h3⟩ := h
    simp at hl
    rcases hl with ⟨rfl, rfl⟩ | hl
    · simp only [Bool.or_eq_true, Bool.and_eq_true, decide_eq_true_eq, Bool.not_eq_true'] at h1
      rcases h1 with ⟨h1, h4⟩ | h1
      · refine .inl ⟨h1, fun hs => ?_⟩
        rw [(sufB_iff q j).2 hs] at h4; cases h4
      · exact .inr (inNs_iff h1)
    · exact ih h3 i j hl
theorem hget_rnH {s : Sl} {cl : List Id} : ∀ {H : Hp} {j : Id} {o : AO}, hget (rnH s cl H) j = some o → ∃ i o1, hget H i = some o1 ∧ slk s i = some j ∧ o = rnO s cl i o1 := by
  intro H
  induction H with
  | nil => intro j o h; simp [rnH, hget] at h
  | cons x r ih =>
    obtain ⟨i, o1⟩ := x
    intro j o h
    simp only [rnH] at h
    split at h
    · rename_i j0 e
      simp only [hget] at h
      split at h
      · rename_i e2; subst e2; cases h
        exact ⟨i, o1, by simp [hget], e, rfl⟩
      · rename_i e2
        obtain ⟨i', o', g1, g2, g3⟩ := ih h
        refine ⟨i', o', ?_, g2, g3⟩
        simp only [hget]
        rw [if_neg]
        · exact g1
        · intro e3; subst e3; rw [e] at g2; cases g2; exact e2 rfl
    · rename_i e
      obtain ⟨i', o', g1, g2, g3⟩ := ih h
      refine ⟨i', o', ?_, g2, g3⟩
      simp only [hget]
      rw [if_neg]
      · exact g1
      · intro e3; subst e3; rw [e] at g2; cases g2
def rnι (q : Id) (s : Sl) (ι : Where) : Where := fun j => bif sufB q j then (match sinv s j with | some i => ι i | none => none) else ι j
theorem rnι_ok {q : Id} {m0 : Nat} {s : Sl} {ι : Where} (h : slOk q m0 s = true) : ∀ i j, slk s i = some j → rnι q s ι j = ι i := by
  intro i j hj
  obtain ⟨h1, h2⟩ := slOk_spec h i j hj
  unfold rnι
  rcases h2 with ⟨rfl, h2⟩ | ⟨k, hk, rfl⟩
  · have : sufB q i = false := by
      cases hb : sufB q i with
      | false => rfl
      | true => exact absurd ((sufB_iff _ _).1 hb) h2
    rw [this]; rfl
  · have : sufB q (k :: q) = true := (sufB_iff _ _).2 (List.suffix_cons _ _)
    rw [this, h1]; rfl
theorem WR.rn {B : Base} {w0 w : World} {σ : Facts} {ι : Where} {H : Hp} {q : Id} {m0 : Nat} {s : Sl} {cl : List Id} (hs : slOk q m0 s = true) (hcl : clP cl H) (h : WR B w0 σ ι H w) : WR B w0 σ (rnι q s ι) (rnH s cl H) w := by
  have key := rnι_ok (ι := ι) hs
  have hmap : ∀ i j, slk s i = some j → ∀ x, ι i = some x → rnι q s ι j = some x := fun i j hj x hx => by rw [key i j hj]; exact hx
  refine ⟨h.hB, h.below, ?_, ?_, ?_, ?_, h.sure, ?_, h.newf⟩
  · intro j o b n ho hi
    obtain ⟨i, o1, g1, g2, rfl⟩ := hget_rnH ho
    rw [key i j g2] at hi
    obtain ⟨k1, obj, k2, k3⟩ := h.obj i o1 b n g1 hi
    refine ⟨k1, obj, k2, ?_⟩
    unfold rnO
    cases hc : cl.any (fun j => decide (j = i)) with
    | true => exact k3.cl (clP_get hcl g1 hc)
    | false => exact k3.rn hmap
  · intro j o ho hi
    obtain ⟨i, o1, g1, g2, rfl⟩ := hget_rnH ho
    rw [key i j g2] at hi
    obtain ⟨ro, rfl⟩ := h.ghost i o1 g1 hi
    exact ⟨ro, by unfold rnO; cases cl.any (fun j => decide (j = i)) <;> rfl⟩
  · intro j o ho
    obtain ⟨i, o1, g1, g2, rfl⟩ := hget_rnH ho
    rw [key i j g2]; exact h.dom i o1 g1
  · intro j j' o o' b n n' ho ho' hi hi'
    obtain ⟨i, o1, g1, g2, rfl⟩ := hget_rnH ho
    obtain ⟨i', o1', g1', g2', rfl⟩ := hget_rnH ho'
    rw [key i j g2] at hi
    rw [key i' j' g2'] at hi'
    have := h.inj i i' o1 o1' b n n' g1 g1' hi hi'
    subst this
    rw [g2] at g2'; cases g2'; rfl
  · intro a v hsv j o b n ho hi hb
    obtain ⟨i, o1, g1, g2, rfl⟩ := hget_rnH ho
    rw [key i j g2] at hi
    obtain ⟨cells, rfl, hlt⟩ := h.stab a v hsv i o1 b n g1 hi hb
    unfold rnO
    cases cl.any (fun j => decide (j = i)) with
    | true => exact ⟨_, rfl, hlt⟩
    | false => exact ⟨_, rfl, by rw [rnL_map, List.length_map]; exact hlt⟩

/-! ### Weaker states -/
def LeT (T T' : Tm) : Prop := ∀ t, Le (tget T t) (tget T' t)
theorem LeT.refl (T : Tm) : LeT T T := fun _ => Le.refl _
theorem LeT.cons {T T' : Tm} {t : Nat} {v v' : AV} (h : Le v v') (hs : LeT T T') : LeT ((t, v) :: T) ((t, v') :: T') := by
  intro k
  simp only [tget]
  split
  · exact h
  · exact hs k
/-- Rows of a heap told weaker. -/
inductive LeH : Hp → Hp → Prop
  | refl (H : Hp) : LeH H H
  | cons (i : Id) (o : AO) {H H' : Hp} (h : LeH H H') : LeH ((i, o) :: H) ((i, o) :: H')
  | row (i : Id) (ro : Bool) {cs cs' : List AV} {H H' : Hp} (hc : LeL cs cs') (h : LeH H H') : LeH ((i, .row cs ro) :: H) ((i, .row cs' ro) :: H')
theorem LeL.get {l l' : List AV} (h : LeL l l') : ∀ {j : Nat} {c : AV}, l'[j]? = some c → ∃ c0, l[j]? = some c0 ∧ Le c0 c := by
  induction h with
  | nil => intro j c h; simp at h
  | cons hv _ ih =>
    intro j c h
    cases j with
    | zero => simp at h; subst h; exact ⟨_, rfl, hv⟩
    | succ j => simp at h; obtain ⟨c0, g1, g2⟩ := ih h; exact ⟨c0, by simpa using g1, g2⟩
theorem LeH.get {H H' : Hp} (h : LeH H H') : ∀ {i : Id} {o : AO}, hget H' i = some o → ∃ o0, hget H i = some o0 ∧ (o0 = o ∨ ∃ cs cs' ro, o0 = .row cs ro ∧ o = .row cs' ro ∧ LeL cs cs') := by
  induction h with
  | refl H => intro i o ho; exact ⟨o, ho, .inl rfl⟩
  | cons i o h ih =>
    intro k x hx
    simp only [hget] at hx ⊢
    split at hx
    · rename_i e; rw [if_pos e]; cases hx; exact ⟨_, rfl, .inl rfl⟩
    · rename_i e; rw [if_neg e]; exact ih hx
  | row i ro hc h ih =>
    intro k x hx
    simp only [hget] at hx ⊢
    split at hx
    · rename_i e; rw [if_pos e]; cases hx; exact ⟨_, rfl, .inr ⟨_, _, _, rfl, rfl, hc⟩⟩
    · rename_i e; rw [if_neg e]; exact ih hx
theorem WR.le {B : Base} {w0 w : World} {σ : Facts} {ι : Where} {H H' : Hp} (h : WR B w0 σ ι H w) (hl : LeH H H') : WR B w0 σ ι H' w := by
  refine ⟨h.hB, h.below, ?_, ?_, ?_, ?_, h.sure, ?_, h.newf⟩
  · intro i o b n ho hi
    obtain ⟨o0, g1, g2⟩ := hl.get ho
    obtain ⟨k1, obj, k2, k3⟩ := h.obj i o0 b n g1 hi
    refine ⟨k1, obj, k2, ?_⟩
    rcases g2 with rfl | ⟨cs, cs', ro, rfl, rfl, hc⟩
    · exact k3
    · obtain ⟨arr, e, e1, e2, e3, e4⟩ := k3
      refine ⟨arr, e, e1, e2, by rw [← hc.length]; exact e3, fun j c hj => ?_⟩
      obtain ⟨c0, hc0, hle⟩ := hc.get hj
      obtain ⟨u, hu, hv⟩ := e4 j c0 hc0
      exact ⟨u, hu, hle _ _ _ hv⟩
  · intro i o ho hi
    obtain ⟨o0, g1, g2⟩ := hl.get ho
    obtain ⟨ro, e⟩ := h.ghost i o0 g1 hi
    rcases g2 with rfl | ⟨cs, cs', ro', rfl, rfl, hc⟩
    · exact ⟨ro, e⟩
    · cases e; cases hc; exact ⟨ro, rfl⟩
  · intro i o ho
    obtain ⟨o0, g1, _⟩ := hl.get ho
    exact h.dom i o0 g1
  · intro i j o o' b n n' h1 h2
    obtain ⟨o1, g1, _⟩ := hl.get h1
    obtain ⟨o2, g2, _⟩ := hl.get h2
    exact h.inj i j o1 o2 b n n' g1 g2
  · intro a v hs i o b n ho hi hb
    obtain ⟨o0, g1, g2⟩ := hl.get ho
    obtain ⟨cells, e, hlt⟩ := h.stab a v hs i o0 b n g1 hi hb
    rcases g2 with rfl | ⟨cs, cs', ro', rfl, rfl, hc⟩
    · exact ⟨cells, e, hlt⟩
    · cases e; exact ⟨_, rfl, by rw [← hc.length]; exact hlt⟩
theorem Gh.le {T T' : Tm} {H H' : Hp} {p : Id} {n : Nat} (hT : LeT T T') (hd : tget T' 1000000 = tget T 1000000) (hH : LeH H H') : Gh ⟨T, H, p, n⟩ ⟨T', H', p, n⟩ := by
  rintro E B w0 σ0 ι0 q ds a w ⟨σ, ι, hs⟩
  exact ⟨σ, ι, hs.le, hs.lei, hs.out, hs.wr.le hH, fun t => hT t _ _ _ (hs.tr t), hs.nt, hs.qp, hs.fr, hs.df.same hd, hs.nk⟩
/-- From a state of a loop's round to one with other ids, told weaker. -/
def RnOK (q : Id) (m0 : Nat) (T : Tm) (H : Hp) (n : Nat) (T' : Tm) (H' : Hp) : Prop := ∀ E B w0 σ0 ι0 ds a w, (∀ j, q <:+ j → ι0 j = none) →
  SR E B w0 σ0 ι0 q ds ⟨T, H, q, n⟩ a w → SR E B w0 σ0 ι0 q ds ⟨T', H', q, m0⟩ a w
theorem rn_ok {q : Id} {m0 n : Nat} {T T1 : Tm} {H H1 : Hp} (s : Sl) (cl : List Id) (l : List Nat) (hcl : clP cl H) (h : rnB q m0 s cl l T H = some (T1, H1)) : RnOK q m0 T H n T1 H1 := by
  rintro E B w0 σ0 ι0 ds a w hf ⟨σ, ι, hs⟩
  unfold rnB at h
  split at h
  · rename_i hok
    simp only [Bool.and_eq_true] at hok
    obtain ⟨hok, hany⟩ := hok
    have hd0 : tget T 1000000 = .any := by
      cases hT : tget T 1000000 <;> rw [hT] at hany <;> simp [isAny] at hany
    cases h
    have key := rnι_ok (ι := ι) hok
    have hmap : ∀ i j, slk s i = some j → ∀ x, ι i = some x → rnι q s ι j = some x := fun i j hj x hx => by rw [key i j hj]; exact hx
    have hout : ∀ j, ¬ q <:+ j → rnι q s ι j = ι j := by
      intro j hj
      have : sufB q j = false := by
        cases hb : sufB q j with
        | false => rfl
        | true => exact absurd ((sufB_iff _ _).1 hb) hj
      unfold rnι; rw [this]; rfl
    refine ⟨σ, rnι q s ι, hs.le, fun j y hj => ?_, fun j hj => ?_, hs.wr.rn hok hcl, fun t => ?_, hs.nt, hs.qp, fun j k hk hj => ?_, ?_, hs.nk⟩
    · have hnq : ¬ q <:+ j := fun hq => by rw [hf j hq] at hj; cases hj
      rw [hout j hnq]; exact hs.lei j y hj
    · rw [hout j hj]; exact hs.out j hj
    · simp only [tget]
      split
      · exact .any _
      · clear hany
        induction l with
        | nil => exact .any _
        | cons k l ih =>
          simp only [List.map_cons, tget]
          split
          · rename_i e; subst e; exact (hs.tr k).rn hmap
          · exact ih
    · have hq : q <:+ j := (List.suffix_cons _ _).trans hj
      unfold rnι
      rw [(sufB_iff q j).2 hq]
      simp only [cond_true]
      split
      · rename_i i hi
        exfalso
        rcases slOk_mem hok i j (sinv_slk hi) with ⟨_, h2⟩ | ⟨k', hk', rfl⟩
        · exact h2 hq
        · have hk : m0 ≤ k := hk
          have := suffix_cons_ne hj (List.suffix_refl _)
          omega
      · rfl
    · obtain ⟨ms, h1, h2⟩ := hs.df
      refine ⟨ms, h1, ?_⟩
      simp only [tget, if_true]
      simp only [hd0] at h2
      exact h2
  · cases h
theorem RnOK.le {q : Id} {m0 n : Nat} {T T1 T2 : Tm} {H H1 H2 : Hp} (h : RnOK q m0 T H n T1 H1) (hT : LeT T1 T2) (hd : tget T2 1000000 = tget T1 1000000) (hH : LeH H1 H2) : RnOK q m0 T H n T2 H2 :=
  fun E B w0 σ0 ι0 ds a w hf hs => Gh.le hT hd hH E B w0 σ0 ι0 q ds a w (h E B w0 σ0 ι0 ds a w hf hs)
/-- A loop whose rounds begin with told states; the counter of a round begins at m0. -/
def loopR {X : Type} (p : Id) (n m0 : Nat) (tx : X → Tm) (hx : X → Hp) (inv : X → Prop) (μ : X → Nat) (k : Nat) (Q : Exit → St → Prop) : Exit → St → Prop
  | .normal, s => s.p = n :: p ∧ ∃ x, μ x < k ∧ inv x ∧ RnOK (n :: p) m0 s.T s.H s.n (tx x) (hx x)
  | e, s => Q e ⟨s.T, s.H, p, n + 1⟩
theorem at_loopR {E : En} {Q : Exit → St → Prop} {body : Code} {T : Tm} {H : Hp} {p : Id} {n : Nat} {X : Type} (m0 : Nat) (tx : X → Tm) (hx : X → Hp) (inv : X → Prop) (μ : X → Nat) (x0 : X)
    (h0 : inv x0) (hr : RnOK (n :: p) m0 T H 0 (tx x0) (hx x0))
    (hb : ∀ x, inv x → AT E body (loopR p n m0 tx hx inv μ (μ x) Q) ⟨tx x, hx x, n :: p, m0⟩) : AT E (.loop body) Q ⟨T, H, p, n⟩ := by
  rintro B w0 σ0 ι0 q ds a w ⟨σ, ι, hs⟩
  intro b k cs hro hbf hrr
  have hfresh : ∀ j, (n :: p) <:+ j → ι j = none := fun j hj => hs.fr j n (Nat.le_refl _) hj
  have back : ∀ s' a' w', SR E B w0 σ ι (n :: p) ds s' a' w' → SR E B w0 σ0 ι0 q ds ⟨s'.T, s'.H, p, n + 1⟩ a' w' := by
    rintro s' a' w' ⟨σ', ι', hs'⟩
    refine ⟨σ', ι', fun x y h => hs'.le _ _ (hs.le x y h), fun j y h => hs'.lei _ _ (hs.lei j y h), fun j hj => ?_, hs'.wr, hs'.tr, hs'.nt, hs.qp, fun j k hk hj => ?_, hs'.df, hs'.nk⟩
    · rw [hs'.out j (fun h => hj ((hs.qp.trans (List.suffix_cons _ _)).trans h))]; exact hs.out j hj
    · have hk' : n + 1 ≤ k := hk
      rw [hs'.out j (fun h => by have := suffix_cons_ne hj h; omega)]
      exact hs.fr j k (by show n ≤ k; omega) hj
  have key : ∀ i x a w, μ x = i → inv x → SR E B w0 σ ι (n :: p) ds ⟨tx x, hx x, n :: p, m0⟩ a w →
      ∃ e a' w', (∃ s', Q e s' ∧ SR E B w0 σ0 ι0 q ds s' a' w') ∧ ArrivesIn (Machine.fenced E.P E.F) E.P (lone (b.atR a (.code body :: .inLoop body :: k)) cs w) b k cs e a' w' := by
    intro i
    induction i using Nat.strongRecOn with
    | _ i ih =>
      intro x a w hμ hI hsr
      obtain ⟨e, a₁, w₁, ⟨s', hq, hsr'⟩, harr⟩ := hb x hI B w0 σ ι (n :: p) ds a w hsr b (.inLoop body :: k) cs hro hbf hrr
      cases e with
      | normal =>
        obtain ⟨hp, x', hlt, hI', hrn⟩ := hq
        obtain ⟨T1, H1, p1, m1⟩ := s'
        simp only at hp
        subst hp
        obtain ⟨e₂, a₂, w₂, hq₂, harr₂⟩ := ih (μ x') (by omega) x' a₁ w₁ rfl hI' (hrn E B w0 σ ι ds a₁ w₁ hfresh hsr')
        exact ⟨e₂, a₂, w₂, hq₂, .of_steps (StepsIn.trans harr (.one (fenced_calm hbf hrr rfl) stepR_inLoop)) harr₂⟩
      | exit id => exact ⟨_, a₁, w₁, ⟨_, hq, back s' a₁ w₁ hsr'⟩, .pass (x := .inLoop body) rfl (fun _ _ => .inl (by simp)) harr⟩
      | goto l => exact ⟨_, a₁, w₁, ⟨_, hq, back s' a₁ w₁ hsr'⟩, .pass (x := .inLoop body) rfl (fun _ _ => .inl (by simp)) harr⟩
      | ret => exact ⟨_, a₁, w₁, ⟨_, hq, back s' a₁ w₁ hsr'⟩, .pass (x := .inLoop body) rfl (fun _ _ => .inl (by simp)) harr⟩
      | panic ch => exact ⟨_, a₁, w₁, ⟨_, hq, back s' a₁ w₁ hsr'⟩, .pass (x := .inLoop body) rfl (fun _ _ => .inl (by simp)) harr⟩
      | outgrown => exact ⟨_, a₁, w₁, ⟨_, hq, back s' a₁ w₁ hsr'⟩, .pass (x := .inLoop body) rfl (fun _ _ => .inl (by simp)) harr⟩
  have hstart : SR E B w0 σ ι (n :: p) ds ⟨T, H, n :: p, 0⟩ a w :=
    ⟨σ, ι, fun _ _ h => h, fun _ _ h => h, fun _ _ => rfl, hs.wr, hs.tr, hs.nt, List.suffix_refl _, fun j k _ hj => hs.fr j n (Nat.le_refl _) ((List.suffix_cons _ _).trans hj), hs.df, hs.nk⟩
  obtain ⟨e, a', w', hq, harr⟩ := key (μ x0) x0 a w rfl h0 (hr E B w0 σ ι ds a w hfresh hstart)
  exact ⟨e, a', w', hq, .of_steps (.one (fenced_calm hbf hrr rfl) stepR_loop) harr⟩
/-- A nil slice, told as an empty one of one's own. -/
theorem Gh.own {T : Tm} {H : Hp} {p : Id} {n : Nat} (t sz : Nat) (ht : tget T t = .tv .nils) (h0 : t ≠ 1000000) : Gh ⟨T, H, p, n⟩ ⟨(t, .sl (n :: p) sz 0 0) :: T, (n :: p, .row [] false) :: H, p, n + 1⟩ := by
  rintro E B w0 σ0 ι0 q ds a w ⟨σ, ι, hs⟩
  have hid : ι (n :: p) = none := hs.fr _ n (Nat.le_refl _) (List.suffix_refl _)
  have hle := wput_le (x := none) hid
  have hne : ∀ j, j ≠ n :: p → wput ι (n :: p) none j = ι j := fun j hj => by unfold wput; rw [if_neg hj]
  refine ⟨σ, wput ι (n :: p) none, hs.le, fun j y h => hle _ _ (hs.lei j y h), fun j hj => ?_, hs.wr.empty _ hid false, fun k => ?_, hs.nt, hs.qp, fun j k hk hj => ?_, (hs.df.mono (fun _ _ h => h) hle).same (by simp [tget, h0]), hs.nk⟩
  · rw [hne j (fun e => by subst e; exact hj (hs.qp.trans (List.suffix_cons _ _)))]; exact hs.out j hj
  · simp only [tget]
    split
    · rename_i e; subst e
      have := hs.tr t
      rw [ht] at this
      generalize a.tmps.getD t undef = u at this
      cases this with
      | tv h => cases h; exact .sl0 _ _ _ _
    · exact (hs.tr k).mono (fun _ _ h => h) hle
  · have hk' : n + 1 ≤ k := hk
    rw [hne j (fun e => by subst e; have := suffix_cons_ne hj (List.suffix_refl _); omega)]
    exact hs.fr j k (by show n ≤ k; omega) hj

/-! ### Lists of one's own, told by what is in them -/
def flat {α : Type} (enc : α → List TV) (l : List α) : List AV := (l.map enc).flatten.map .tv
theorem tvs_map (l : List TV) : tvs (l.map .tv) = some l := by
  induction l with
  | nil => rfl
  | cons x r ih => simp only [List.map_cons, tvs, ih, Option.map_some]
theorem flat_len {α : Type} {enc : α → List TV} {sz : Nat} (hz : ∀ a, (enc a).length = sz) (l : List α) : (flat enc l).length = l.length * sz := by
  unfold flat
  rw [List.length_map]
  induction l with
  | nil => simp
  | cons a l ih => simp only [List.map_cons, List.flatten_cons, List.length_append, ih, hz, List.length_cons]; rw [Nat.succ_mul]; omega
theorem chunk_flat {α : Type} {enc : α → List TV} {sz : Nat} (hz : ∀ a, (enc a).length = sz) : ∀ l : List α, chunk sz l.length (l.map enc).flatten = l.map enc := by
  intro l
  induction l with
  | nil => rfl
  | cons a l ih =>
    simp only [List.length_cons, chunk, List.map_cons, List.flatten_cons]
    rw [List.take_append_of_le_length (by rw [hz]; omega), List.drop_append_of_le_length (by rw [hz]; omega)]
    have e1 : (enc a).take sz = enc a := by rw [List.take_of_length_le]; rw [hz]; omega
    have e2 : (enc a).drop sz = [] := by rw [List.drop_of_length_le]; rw [hz]; omega
    rw [e1, e2, List.nil_append, ih]
theorem frz_flat {α : Type} {H : Hp} {i : Id} {enc : α → List TV} {l : List α} {sz : Nat} {ro : Bool} (hh : hget H i = some (.row (flat enc l) ro)) (hz : ∀ a, (enc a).length = sz) (h0 : 0 < sz) :
    frzV H (.sl i sz 0 l.length) = some (.tv (.sli sz (l.map enc)), hset H i (.row (flat enc l) true)) := by
  have ht : tvs (flat enc l) = some (l.map enc).flatten := tvs_map _
  have hl := flat_len hz l
  unfold flat at hl
  rw [List.length_map] at hl
  simp only [frzV, hh, ht]
  rw [if_pos ⟨trivial, hl, h0⟩, chunk_flat hz]
theorem clO_flat {α : Type} (enc : α → List TV) (l : List α) (ro : Bool) : clO (.row (flat enc l) ro) := by
  intro c hc
  unfold flat at hc
  obtain ⟨t, _, rfl⟩ := List.mem_map.1 hc
  exact ⟨t, rfl⟩
theorem flat_snoc {α : Type} {enc : α → List TV} (l : List α) (a : α) : flat enc l ++ (enc a).map .tv = flat enc (l ++ [a]) := by
  simp [flat]
theorem row_enc {α : Type} (enc : α → List TV) (l : List α) (i : Int) (d : α) (h : 0 ≤ i ∧ i < ((l.map enc).length : Int)) : rowAt (l.map enc) i = enc (l.getD i.toNat d) :=
  rowAt_map enc l i d (by simpa using h)
end Go.Proofs.Ythmimpiegnnmdaa
