/- The door: from an argument's reading to what is told of it; from a law's pure contract to its row. -/
import Derived.Test.YthmimpiegnnmdaaAbs24
import Derived.ProofKit
import Derived.OpenShut
import Derived.SizedLaws
namespace Go.Proofs.Ythmimpiegnnmdaa
open Go.RowKit Go.ChangeShapes Go.WideShapes Go.ChangeAt
set_option linter.unusedSimpArgs false
set_option linter.unusedVariables false

def factsOf (W : World) : Facts := fun a v => W.cell? a = some v
def CR (σ : Facts) (e : List TV) (cs : List Value) : Prop := cs.length = e.length ∧ ∀ (j : Nat) (c : TV) (u : Value), e[j]? = some c → cs[j]? = some u → TR σ c u
def Rd {H : Type} (enc : TypeId × Value → H) (P : Program) (W : World) (fuel : Nat) (t : TypeId) {α : Type} (f : α → List TV) : Prop :=
  ∀ cs x, DataW.trod enc P W 0 (fun _ => true) true fuel t cs = some x → ∃ a : α, CR (factsOf W) (f a) cs
section
variable {H : Type} {enc : TypeId × Value → H} {P : Program} {W : World}
theorem rd_zero {t : TypeId} {α : Type} {f : α → List TV} : Rd enc P W 0 t f := fun cs x h => by simp [DataW.trod] at h
theorem CR.one {σ : Facts} {c : TV} {u : Value} (h : TR σ c u) : CR σ [c] [u] := by
  refine ⟨rfl, fun j c' u' h1 h2 => ?_⟩
  cases j with
  | zero => simp at h1 h2; subst h1 h2; exact h
  | succ j => simp at h1
theorem CR.nil {σ : Facts} : CR σ [] [] := ⟨rfl, fun j c u h => by simp at h⟩
theorem CR.app {σ : Facts} {e r : List TV} {cs : List Value} {off n : Nat} (h : CR σ e ((cs.drop off).take n)) (hn : e.length = n) (hr : CR σ r (cs.drop (off + n))) : CR σ (e ++ r) (cs.drop off) := by
  have hl := h.1
  rw [hn, List.length_take] at hl
  have hsplit : cs.drop off = (cs.drop off).take n ++ cs.drop (off + n) := by
    rw [← List.drop_drop, List.take_append_drop]
  rw [hsplit]
  refine ⟨by rw [List.length_append, List.length_append, h.1, hr.1], fun j c u h1 h2 => ?_⟩
  have hl2 : ((cs.drop off).take n).length = e.length := h.1
  by_cases hj : j < e.length
  · rw [List.getElem?_append_left hj] at h1
    rw [List.getElem?_append_left (by omega)] at h2
    exact h.2 j c u h1 h2
  · rw [List.getElem?_append_right (by omega)] at h1
    rw [List.getElem?_append_right (by omega), hl2] at h2
    exact hr.2 _ c u h1 h2
theorem rd_int {fuel : Nat} {t : TypeId} {k : IntKind} (ht : P.underlying t = some (.int k)) : Rd enc P W fuel t (fun n : Int => [.int k n]) := by
  intro cs x h
  cases fuel with
  | zero => simp [DataW.trod] at h
  | succ fuel =>
    unfold DataW.trod at h
    rw [ht] at h
    split at h <;> simp_all
    rename_i k' k'' n e1
    obtain ⟨⟨rfl, _⟩, _⟩ := h
    subst e1
    exact ⟨n, CR.one (.int _ n)⟩
theorem rd_bool {fuel : Nat} {t : TypeId} (ht : P.underlying t = some .bool) : Rd enc P W fuel t (fun b : Bool => [.bool b]) := by
  intro cs x h
  cases fuel with
  | zero => simp [DataW.trod] at h
  | succ fuel =>
    unfold DataW.trod at h
    rw [ht] at h
    split at h <;> try (simp_all; done)
    rename_i b _
    exact ⟨b, CR.one (.bool b)⟩
theorem rd_str {fuel : Nat} {t : TypeId} (ht : P.underlying t = some .string) : Rd enc P W fuel t (fun s : ByteArray => [.str s]) := by
  intro cs x h
  cases fuel with
  | zero => simp [DataW.trod] at h
  | succ fuel =>
    unfold DataW.trod at h
    rw [ht] at h
    split at h <;> simp_all
    rename_i s
    exact ⟨s, CR.one (.str s (by have := h.1; simp [maxLen] at this; omega))⟩
theorem mapM_get {α β : Type} {f : α → Option β} : ∀ {l : List α} {r : List β}, l.mapM f = some r → r.length = l.length ∧ ∀ (j : Nat) (x : α), l[j]? = some x → ∃ y, r[j]? = some y ∧ f x = some y := by
  intro l
  induction l with
  | nil => intro r h; simp at h; subst h; exact ⟨rfl, fun j x h => by simp at h⟩
  | cons a l ih =>
    intro r h
    rw [List.mapM_cons] at h
    cases ha : f a with
    | none => rw [ha] at h; simp at h
    | some y =>
      rw [ha] at h
      cases hl : l.mapM f with
      | none => rw [hl] at h; simp at h
      | some r' =>
        rw [hl] at h; simp at h; subst h
        obtain ⟨g1, g2⟩ := ih hl
        refine ⟨by simp [g1], fun j x hx => ?_⟩
        cases j with
        | zero => simp at hx; subst hx; exact ⟨y, rfl, ha⟩
        | succ j => simp at hx; obtain ⟨z, h1, h2⟩ := g2 j x hx; exact ⟨z, by simpa using h1, h2⟩
theorem rd_slice {fuel : Nat} {t e : TypeId} {α : Type} {f : α → List TV} {sz : Nat} (ht : P.underlying t = some (.slice e)) (hc : P.cellsOf e = sz) (hz : ∀ a, (f a).length = sz) (he : Rd enc P W fuel e f) :
    Rd enc P W (fuel + 1) t (fun l : List α => [.sli sz (l.map f)]) := by
  intro cs x h
  unfold DataW.trod at h
  rw [ht] at h
  split at h <;> try (simp_all; done)
  · rename_i e1 e2
    refine ⟨[], CR.one ?_⟩
    have := TR.sli (σ := factsOf W) sz [] none 0 (fun _ _ => undef) (by simp) (by simp) (fun _ => rfl) (fun r hr => by simp at hr) (fun i j r c h => by simp at h) (fun a i j r c _ h => by simp at h)
    exact this
  · rename_i e' a len cap e1
    have : e' = e := by simpa using e1.symm
    subst this
    simp only at h
    split at h
    · rename_i hcond
      cases hm : (List.range len).mapM (fun i => (W.cells? 0 (a.add (i * P.cellsOf e')) (P.cellsOf e')).bind (DataW.trod enc P W 0 (fun _ => true) true fuel e')) with
      | none => rw [hm] at h; simp at h
      | some elems =>
        obtain ⟨_, hget⟩ := mapM_get hm
        have hrow : ∀ i, i < len → ∃ (cells : List Value) (y : α), W.cells? 0 (a.add (i * sz)) sz = some cells ∧ CR (factsOf W) (f y) cells := by
          intro i hi
          obtain ⟨y, _, hy⟩ := hget i i (List.getElem?_range hi)
          rw [hc] at hy
          cases hcs : W.cells? 0 (a.add (i * sz)) sz with
          | none => rw [hcs] at hy; simp at hy
          | some cells =>
            rw [hcs] at hy
            obtain ⟨z, hz'⟩ := he cells _ hy
            exact ⟨cells, z, rfl, hz'⟩
        have hex : ∃ l : List α, l.length = len ∧ ∀ i, i < len → ∃ (cells : List Value) (y : α), l[i]? = some y ∧ W.cells? 0 (a.add (i * sz)) sz = some cells ∧ CR (factsOf W) (f y) cells := by
          refine ⟨(List.range len).attach.map (fun i => Classical.choose (Classical.choose_spec (hrow i.1 (List.mem_range.1 i.2)))), by simp, fun i hi => ?_⟩
          refine ⟨_, _, ?_, Classical.choose_spec (Classical.choose_spec (hrow i hi))⟩
          simp [hi]
        obtain ⟨l, hl, hls⟩ := hex
        refine ⟨l, CR.one ?_⟩
        have hcell : ∀ i j r c, (l.map f)[i]? = some r → r[j]? = some c → ∃ u, W.cell? (a.add (i * sz + j)) = some u ∧ TR (factsOf W) c u := by
          intro i j r c h1 h2
          rw [List.getElem?_map] at h1
          cases hli : l[i]? with
          | none => rw [hli] at h1; simp at h1
          | some y =>
            rw [hli] at h1; simp at h1; subst h1
            have hi : i < len := by rw [← hl]; exact (List.getElem?_eq_some_iff.1 hli).1
            obtain ⟨cells, y', g1, g2, g3⟩ := hls i hi
            rw [hli] at g1; cases g1
            have hj : j < sz := by rw [← hz y]; exact (List.getElem?_eq_some_iff.1 h2).1
            unfold World.cells? at g2
            rw [if_pos (Nat.zero_le _)] at g2
            obtain ⟨_, hg⟩ := mapM_get g2
            obtain ⟨u, hu1, hu2⟩ := hg j j (List.getElem?_range hj)
            refine ⟨u, ?_, g3.2 j c u h2 hu1⟩
            rw [← hu2]
            congr 1
            unfold Addr.add
            by_cases e1 : i * sz = 0
            · rw [e1]; simp
            · by_cases e2 : j = 0
              · subst e2; simp
              · have : i * sz + j ≠ 0 := by omega
                simp [e1, e2, this, Nat.add_assoc]
        have hlen : (l.map f).length = len := by simp [hl]
        rw [← hlen]
        have hcond' := hcond
        refine .sli sz _ (some a) cap (fun i j => (W.cell? (a.add (i * sz + j))).getD undef) (by rw [hlen]; exact hcond.2.1) (by rw [hlen]; have := hcond.2.2; have := hcond.2.1; simp [maxLen] at *; omega) (fun e => by cases e) (fun r hr => by
          obtain ⟨y, _, rfl⟩ := List.mem_map.1 hr; exact hz y) (fun i j r c h1 h2 => ?_) (fun a' i j r c ha h1 h2 => ?_)
        · obtain ⟨u, h3, h4⟩ := hcell i j r c h1 h2
          rw [h3]; exact h4
        · cases ha
          obtain ⟨u, h3, h4⟩ := hcell i j r c h1 h2
          unfold factsOf
          rw [h3]; rfl
    · simp at h
theorem rd_fields {fuel : Nat} {t : TypeId} {fs : Array Field} {cs : List Value} {x : DataW H × List MemPlace} (ht : P.underlying t = some (.struct fs)) (h : DataW.trod enc P W 0 (fun _ => true) true (fuel + 1) t cs = some x) :
    cs.length = P.cellsOf t ∧ ∀ (j : Nat) (fd : Field), fs[j]? = some fd → ∃ y, DataW.trod enc P W 0 (fun _ => true) true fuel fd.type ((cs.drop fd.offset).take (P.cellsOf fd.type)) = some y := by
  unfold DataW.trod at h
  rw [ht] at h
  split at h <;> try (simp_all; done)
  rename_i cs0 x1 cs' fs' e1
  have : fs' = fs := by simpa using e1.symm
  subst this
  split at h
  · rename_i hl
    refine ⟨hl, fun j fd hfd => ?_⟩
    cases hm : fs'.toList.mapM (fun f => DataW.trod enc P W 0 (fun _ => true) true fuel f.type ((cs0.drop f.offset).take (P.cellsOf f.type))) with
    | none => rw [hm] at h; simp at h
    | some ys =>
      obtain ⟨_, hg⟩ := mapM_get hm
      obtain ⟨y, _, hy⟩ := hg j fd (by simpa using hfd)
      exact ⟨y, hy⟩
  · simp at h
theorem CR.fin {σ : Facts} {cs : List Value} {n : Nat} (h : cs.length = n) : CR σ [] (cs.drop n) := by
  refine ⟨by simp [h], fun j c u h1 => by simp at h1⟩
theorem rd_field {fuel : Nat} {fs : Array Field} {cs : List Value} {α : Type} {f : α → List TV} (hf : ∀ (j : Nat) (fd : Field), fs[j]? = some fd → ∃ y, DataW.trod enc P W 0 (fun _ => true) true fuel fd.type ((cs.drop fd.offset).take (P.cellsOf fd.type)) = some y)
    (j t off n : Nat) (hfd : (fs[j]?).map (fun x => (x.type, x.offset)) = some (t, off)) (hc : P.cellsOf t = n) (r : Rd enc P W fuel t f) : ∃ a, CR (factsOf W) (f a) ((cs.drop off).take n) := by
  cases hx : fs[j]? with
  | none => rw [hx] at hfd; simp at hfd
  | some fd =>
    rw [hx] at hfd; simp at hfd
    obtain ⟨y, hy⟩ := hf j fd hx
    rw [hfd.1, hfd.2, hc] at hy
    exact r _ _ hy
theorem CR.vrs {σ : Facts} {ι : Where} {e : List TV} {cs : List Value} (h : CR σ e cs) : VRs σ ι (e.map .tv) cs := by
  refine ⟨by simp [h.1], fun j c u h1 h2 => ?_⟩
  rw [List.getElem?_map] at h1
  cases hc : e[j]? with
  | none => rw [hc] at h1; simp at h1
  | some t => rw [hc] at h1; simp at h1; subst h1; exact .tv (h.2 j t u hc h2)
theorem CR.vr {σ : Facts} {ι : Where} {c : TV} {u : Value} (h : CR σ [c] [u]) : VR σ ι (.tv c) u := .tv (h.2 0 c u rfl rfl)
/-- An argument of one cell. -/
theorem arg_one {t : TypeId} {v : Value} {d : DataW H} {p : List MemPlace} {α : Type} {f : α → TV} {ι : Where} (hv : v.cells.toList = [v]) (hr : ∀ fuel, Rd enc P W fuel t (fun a => [f a])) (h : DataW.Trod enc P W 0 (fun _ => true) true t v d p) : ∃ a, VR (factsOf W) ι (.tv (f a)) v := by
  obtain ⟨fuel, hf⟩ := h
  rw [hv] at hf
  obtain ⟨a, ha⟩ := hr fuel _ _ hf
  exact ⟨a, ha.vr⟩
/-- An argument that is a struct. -/
theorem arg_agg {t : TypeId} {us : Array Value} {d : DataW H} {p : List MemPlace} {α : Type} {f : α → List TV} {ι : Where} (hr : ∀ fuel, Rd enc P W fuel t f) (h : DataW.Trod enc P W 0 (fun _ => true) true t (.agg us) d p) : ∃ a, VR (factsOf W) ι (.agg ((f a).map .tv)) (.agg us) := by
  obtain ⟨fuel, hf⟩ := h
  obtain ⟨a, ha⟩ := hr fuel _ _ hf
  have hvs := ha.vrs (ι := ι)
  have e : us = us.toList.toArray := by simp
  refine ⟨a, ?_⟩
  rw [e]
  exact .agg _ _ hvs.1 hvs.2
theorem rd_ext {fuel : Nat} {t : TypeId} {α β : Type} {f : α → List TV} {g : β → List TV} (h : Rd enc P W fuel t f) (k : ∀ a, ∃ b, g b = f a) : Rd enc P W fuel t g := by
  intro cs x hx
  obtain ⟨a, ha⟩ := h cs x hx
  obtain ⟨b, hb⟩ := k a
  exact ⟨b, by rw [hb]; exact ha⟩
end
/-- A pure contract, called at the law's start. -/
theorem law_calls {P : Program} {f : FuncId} {args : List AV} {b : Bool} {W : World} {us : Array Value} (h : PureCall P f args (.tv (.bool b))) (ha : VRs (factsOf W) (fun _ => none) args us.toList) :
    Calls P f us W fun e W' => e = .returned (.bool b) ∧ Below W.heap.size W W' := by
  have hw : WR ⟨W.heap.size, factsOf W⟩ W (factsOf W) (fun _ => none) [] W := by
    refine ⟨Nat.le_refl _, ⟨rfl, rfl, rfl, Nat.le_refl _, fun k _ => rfl⟩, ?_, ?_, ?_, ?_, fun a v h => h, ?_, fun a v h => .inl h⟩
    · intro id o b n h; simp [hget] at h
    · intro id o h; simp [hget] at h
    · intro id o h; simp [hget] at h
    · intro id id' o o' b n n' h; simp [hget] at h
    · intro a v hs id o b n h; simp [hget] at h
  have hc := h [] [] ⟨W.heap.size, factsOf W⟩ W (factsOf W) (fun _ => none) W us.toList hw (fun _ _ => rfl) ha
  have hc' : CallsIn Fence.wide 0 P f us W fun e W' => e = .returned (.bool b) ∧ Below W.heap.size W W' := by
    refine ⟨trivial, fun cs hr => ?_⟩
    obtain ⟨e, w', fr, ⟨v, u, H', σ', ι', he, ⟨hv, hH⟩, hvr, hwr, _⟩, x⟩ := hc.2 cs hr
    subst hv
    refine ⟨e, w', fr, ⟨?_, hwr.below⟩, by simpa using x⟩
    cases hvr with
    | tv ht => cases ht; exact he
  exact callsIn_wide.1 hc'
/-- A whole number that is handed in lies within its kind. -/
theorem okWide_has {P : Program} {w : World} {r : Reach} {base : Nat} {t : TypeId} {v : Value} {σ : Facts} {ι : Where} {k : IntKind} {n : Int} (ht : P.underlying t = some (.int k)) (h : Value.okWide P w r base t v) (hv : VR σ ι (.tv (.int k n)) v) : k.min ≤ n ∧ n ≤ k.max := by
  have e : v = .int k n := by cases hv with | tv ht => cases ht; rfl
  subst e
  simp only [Value.okWide, ht, Cell.okWide, Cell.ok] at h
  exact h.2
end Go.Proofs.Ythmimpiegnnmdaa
