/- What an operation says of told values is what the machine does. -/
import Derived.Test.YthmimpiegnnmdaaAbs3
namespace Go.Proofs.Ythmimpiegnnmdaa
open Go.RowKit
set_option linter.unusedSimpArgs false
set_option linter.unusedVariables false

def tFn (P : Program) (f : FuncId) : Bool := match P.funcs[f]? with
  | some fn => !(fn.name == "runtime.NumGoroutine") && !fn.body.isNone
  | none => false

/-- What is known behind an operation that yields v: more may be known; the new block, if one was made, has the id that was set aside. -/
def After (B : Base) (w0 : World) (σ : Facts) (ι : Where) (H' : Hp) (id : Id) (v : AV) (u : Value) (w' : World) : Prop :=
  ∃ σ' ι', VR σ' ι' v u ∧ WR B w0 σ' ι' H' w' ∧ (∀ x y, σ x y → σ' x y) ∧ (∀ j y, ι j = some y → ι' j = some y) ∧ ∀ j, j ≠ id → ι' j = ι j
def Runs (P : Program) (s : Sem Next) (w : World) (u : Value) (w' : World) : Prop := s.run P w = .ok (.value u) w' ∨ (s.run P w = .ok .skip w' ∧ u = undef)
def Sat (P : Program) (s : Sem Next) (w : World) (B : Base) (w0 : World) (σ : Facts) (ι : Where) (H : Hp) (id : Id) : Res → Prop
  | .val v e => ∃ u w', Runs P s w u w' ∧ After B w0 σ ι (e.app H id) id v u w'
  | .need p r => p → Sat P s w B w0 σ ι H id r
  | .call f args => ∃ us, s.run P w = .ok (.enter f us.toArray) w ∧ VRs σ ι args us
  | .yld i args => ∃ us l n, ι i = some (some (l, n)) ∧ s.run P w = (Instr.yield l us.toArray).run P w ∧ VRs σ ι args us
  | .fail => True

section
variable {P : Program} {B : Base} {w0 w : World} {σ : Facts} {ι : Where} {H : Hp} {id : Id} {s : Sem Next}
theorem Sat.pure {v : AV} {u : Value} (h : WR B w0 σ ι H w) (hr : s.run P w = .ok (.value u) w) (hv : VR σ ι v u) : Sat P s w B w0 σ ι H id (.val v .no) :=
  ⟨u, w, .inl hr, σ, ι, hv, h, fun _ _ h => h, fun _ _ h => h, fun _ _ => rfl⟩

/-! ### Operands -/
def TRel (σ : Facts) (ι : Where) (T : Tm) (tmps : Array Value) : Prop := ∀ t, VR σ ι (tget T t) (tmps.getD t undef)
theorem ofV0_ok (v : Value) (h : ∀ s, v = .string s → s.size ≤ 1000000) : VR σ ι (ofV0 v) v := by
  unfold ofV0
  split <;> try exact .any _
  · exact .tv (.bool _)
  · exact .tv (.int _ _)
  · rename_i x; refine .tv (.str _ ?_); have := h x rfl; omega
  · exact .tv .nils
  · exact .tv .nilp
  · exact .tv .nilm
  · exact .tv .nilf
  · exact .tv .nili
theorem ofV_ok (v : Value) (h : litOk v = true) : VR σ ι (ofV v) v := by
  unfold ofV
  split
  · rename_i cs
    have : (Value.agg cs) = .agg cs.toList.toArray := by simp
    rw [this]
    refine .agg _ _ (by simp) (fun j c u h1 h2 => ?_)
    simp only [List.getElem?_map] at h1
    rw [h2] at h1
    simp at h1; subst h1
    refine ofV0_ok u ?_
    simp only [litOk, List.all_eq_true] at h
    have := h u (List.mem_of_getElem? h2)
    intro s hs
    subst hs
    simpa using this
  · exact ofV0_ok v (fun s hs => by subst hs; simpa [litOk] using h)
def opdOk : Operand → Bool
  | .const v => litOk v
  | _ => true
theorem evo_ok {T : Tm} {a : Act} (hT : TRel σ ι T a.tmps) (x : Operand) (hx : opdOk x = true) : VR σ ι (evo T x) (a.eval x) := by
  cases x with
  | tmp t => exact hT t
  | const v => exact ofV_ok v hx
  | global g => exact .any _
  | func f => exact .tv (.fn f)

/-! ### The types' facts, opened -/
theorem tSz_some {t : TypeId} {n : Nat} (h : tSz P t = some n) : ∃ i, P.info? t = some i ∧ i.size = n := by
  unfold tSz at h; cases hi : P.info? t with
  | none => rw [hi] at h; cases h
  | some i => rw [hi] at h; exact ⟨i, rfl, by simpa using h⟩
theorem tAgg_true {t : TypeId} (h : tAgg P t = some true) (w : World) : (isAgg t).run P w = .ok true w := by
  unfold tAgg at h
  split at h <;> first | cases h | skip
  · rename_i fs hu; simp [isAgg, run_underlying hu]
  · rename_i a b hu; simp [isAgg, run_underlying hu]
theorem tAgg_false {t : TypeId} (h : tAgg P t = some false) (w : World) : (isAgg t).run P w = .ok false w := by
  unfold tAgg at h
  split at h <;> first | cases h | skip
  rename_i d h1 h2 hu
  simp only [isAgg, Sem.run_bind, run_underlying hu, Result.andThen_ok]
  cases d <;> simp_all
theorem tAgg_run {t : TypeId} {g : Bool} (h : tAgg P t = some g) (w : World) : (isAgg t).run P w = .ok g w := by
  cases g
  · exact tAgg_false h w
  · exact tAgg_true h w
theorem run_sizeOf' {t : TypeId} {n : Nat} (h : tSz P t = some n) (w : World) : (sizeOf t).run P w = .ok n w := by
  obtain ⟨i, hi, rfl⟩ := tSz_some h
  simp [sizeOf, typeInfo, hi]
theorem tElem_some {t e : TypeId} (h : tElem P t = some e) : P.underlying t = some (.slice e) := by
  unfold tElem at h; split at h
  · rename_i x hx; simp at h; subst h; exact hx
  · cases h
theorem tArr_some {t e : TypeId} {n : Nat} (h : tArr P t = some (n, e)) : P.underlying t = some (.array n e) := by
  unfold tArr at h; split at h
  · rename_i x y hx; simp at h; obtain ⟨rfl, rfl⟩ := h; exact hx
  · cases h
theorem tMap_some {t k e : TypeId} (h : tMap P t = some (k, e)) : P.underlying t = some (.map k e) := by
  unfold tMap at h; split at h
  · rename_i x y hx; simp at h; obtain ⟨rfl, rfl⟩ := h; exact hx
  · cases h
theorem tFld_some {t : TypeId} {f off ft : Nat} (h : tFld P t f = some (off, ft)) : ∃ fs x, P.underlying t = some (.struct fs) ∧ fs[f]? = some x ∧ x.offset = off ∧ x.type = ft := by
  unfold tFld at h; split at h
  · rename_i fs hx
    cases hf : fs[f]? with
    | none => rw [hf] at h; cases h
    | some x => rw [hf] at h; simp at h; exact ⟨fs, x, hx, hf, h.1, h.2⟩
  · cases h
theorem tStr_true {t : TypeId} (h : tStr P t = true) : P.underlying t = some .string := by
  unfold tStr at h; split at h
  · assumption
  · cases h
theorem tBool_true {t : TypeId} (h : tBool P t = true) : P.underlying t = some .bool := by
  unfold tBool at h; split at h
  · assumption
  · cases h
theorem tZero_some {t : TypeId} {z : AV} (h : tZero P t = some z) : ∃ v, (∀ w, (zeroValue t).run P w = .ok v w) ∧ ∀ σ ι, VR σ ι z v := by
  unfold tZero at h
  cases hi : P.info? t with
  | none => rw [hi] at h; simp at h
  | some i =>
    rw [hi] at h
    simp only [Option.bind_some] at h
    cases hz : i.zero with
    | none => rw [hz] at h; simp at h
    | some v =>
      rw [hz] at h
      simp only at h
      split at h
      · rename_i hl; simp at h; subst h
        exact ⟨v, fun w => by simp [zeroValue, typeInfo, hi, hz], fun σ ι => ofV_ok v hl⟩
      · cases h
/-! ### Cells of a value -/
theorem VR.oneCell {v : AV} {u : Value} (h : VR σ ι v u) (h1 : v.one = true) : u.oneCell' = true ∧ u.cells = #[u] := by
  cases h <;> simp [AV.one] at h1
  case tv h => cases h <;> exact ⟨rfl, rfl⟩
  all_goals exact ⟨rfl, rfl⟩
theorem VR.cells {v : AV} {u : Value} {cs : List AV} (h : VR σ ι v u) (hc : v.cells = some cs) : ∃ us, u.cells = us.toArray ∧ VRs σ ι cs us := by
  cases h <;> simp [AV.cells] at hc
  case agg cs' us hl hv => subst hc; exact ⟨us, rfl, hl, hv⟩
  case tv t h => subst hc; exact ⟨[u], (by cases h <;> rfl), VRs.cons (.tv h) (VRs.nil _ _)⟩
  case ptr a b c d e => subst hc; exact ⟨_, rfl, VRs.cons (.ptr _ _ _ _ e) (VRs.nil _ _)⟩
  case sl id sz off len b n cap h hc' hn hm => subst hc; exact ⟨_, rfl, VRs.cons (.sl _ _ _ _ _ _ _ h hc' hn hm) (VRs.nil _ _)⟩
  case sl0 => subst hc; exact ⟨_, rfl, VRs.cons (.sl0 _ _ _ _) (VRs.nil _ _)⟩
  case map a b c e => subst hc; exact ⟨_, rfl, VRs.cons (.map _ _ _ e) (VRs.nil _ _)⟩
  case fn f cs' us hl hv => subst hc; exact ⟨_, rfl, VRs.cons (.fn _ _ _ hl hv) (VRs.nil _ _)⟩
  case iface t v u h => subst hc; exact ⟨_, rfl, VRs.cons (.iface _ _ _ h) (VRs.nil _ _)⟩
  case yl a b c e => subst hc; exact ⟨_, rfl, VRs.cons (.yl _ _ _ e) (VRs.nil _ _)⟩
theorem VRs.oneCells {cs : List AV} {us : List Value} (h : VRs σ ι cs us) (h1 : cs.all AV.one = true) : ∀ u ∈ us, u.oneCell' = true := by
  intro u hu
  obtain ⟨j, hj⟩ := List.mem_iff_getElem?.1 hu
  have hlt : j < cs.length := by
    have := (List.getElem?_eq_some_iff.1 hj).1
    have := h.1; omega
  have h2 := h.2 j cs[j] u (by simp [hlt]) hj
  rw [List.all_eq_true] at h1
  exact (h2.oneCell (h1 _ (List.getElem_mem hlt))).1

/-! ### Load -/
def LoadSat (P : Program) (t : TypeId) (ux : Value) (w : World) (σ : Facts) (ι : Where) : Res → Prop
  | .val v .no => ∃ u, (Instr.loadAt t ux).run P w = .ok u w ∧ VR σ ι v u
  | .fail => True
  | _ => False
theorem loadSat_chk {t : TypeId} {ux : Value} {c : Prop} [Decidable c] {r : Res} (h : c → LoadSat P t ux w σ ι r) : LoadSat P t ux w σ ι (chk c r) := by
  unfold chk
  split
  · rename_i hc; exact h hc
  · trivial
theorem sat_chk {c : Prop} [Decidable c] {r : Res} (h : c → Sat P s w B w0 σ ι H id r) : Sat P s w B w0 σ ι H id (chk c r) := by
  unfold chk
  split
  · rename_i hc; exact h hc
  · trivial
theorem load_ok {t : TypeId} {x : AV} {ux : Value} (h : WR B w0 σ ι H w) (hx : VR σ ι x ux) : LoadSat P t ux w σ ι (evLoad P H t x) := by
  unfold evLoad
  split
  · rename_i g n hg hn
    -- the general law: n cells at an address
    have key : ∀ (a : Addr) (cs : List AV) (us : List Value), ux = .pointer (some a) → VRs σ ι cs us → cs.length = n → (g = true ∨ n = 1) →
        (∀ j u, us[j]? = some u → w.cell? (a.add j) = some u) →
        ∃ u, (Instr.loadAt t ux).run P w = .ok u w ∧ VR σ ι (joinC g cs) u := by
      intro a cs us hux hv hl hgn hc
      subst hux
      cases g with
      | true =>
        refine ⟨.agg us.toArray, ?_, ?_⟩
        · have hl' : us.length = n := by rw [hv.1, hl]
          have := run_loadCells_list (P := P) w a us hc
          rw [hl'] at this
          simp [Instr.loadAt, Instr.sureAddr, loadVar, tAgg_run hg, run_sizeOf' hn, this]
        · exact .agg _ _ hv.1 hv.2
      | false =>
        have h1 : n = 1 := by simpa using hgn
        subst h1
        match cs, us, hl, hv with
        | [c], us, _, hv =>
          obtain ⟨u, us', rfl, h1, h2⟩ := hv.cons_inv
          have := h2.nil_inv; subst this
          refine ⟨u, ?_, h1⟩
          have h0 := hc 0 u rfl
          simp only [Addr.add, if_true] at h0
          simp [Instr.loadAt, Instr.sureAddr, loadVar, tAgg_run hg, h0]
    split
    · rename_i i off
      split
      · rename_i cells ro hh
        refine loadSat_chk fun ⟨hl, hgn⟩ => ?_
        cases hx with
        | ptr _ _ b m hi =>
        have hex : ∃ us, VRs σ ι ((cells.drop off).take n) us ∧ ∀ j u, us[j]? = some u → w.cell? ((⟨b, off, none⟩ : Addr).add j) = some u := by
          have hc : ∀ j c, ((cells.drop off).take n)[j]? = some c → ∃ u, w.cell? ((⟨b, off, none⟩ : Addr).add j) = some u ∧ VR σ ι c u := by
            intro j c hj
            rw [List.getElem?_take] at hj
            split at hj
            · rw [List.getElem?_drop] at hj
              obtain ⟨u, h1, h2, _⟩ := h.cell hh hi hj
              refine ⟨u, ?_, h2⟩
              rw [← h1]
              simp only [Addr.add]
              split
              · rename_i e; subst e; simp
              · rfl
            · cases hj
          refine ⟨((List.range ((cells.drop off).take n).length).map fun j => (w.cell? ((⟨b, off, none⟩ : Addr).add j)).getD undef), ⟨by simp, ?_⟩, ?_⟩
          · intro j c u h1 h2
            obtain ⟨u', h3, h4⟩ := hc j c h1
            simp only [List.getElem?_map] at h2
            have hlt := (List.getElem?_eq_some_iff.1 h1).1
            rw [List.getElem?_range hlt] at h2
            simp [h3] at h2; subst h2; exact h4
          · intro j u h2
            simp only [List.getElem?_map] at h2
            by_cases hlt : j < ((cells.drop off).take n).length
            · rw [List.getElem?_range hlt] at h2
              obtain ⟨u', h3, h4⟩ := hc j _ (List.getElem?_eq_getElem hlt)
              simp [h3] at h2; subst h2; exact h3
            · rw [List.getElem?_eq_none (by simpa using hlt)] at h2; cases h2
        obtain ⟨us, hv, hc⟩ := hex
        obtain ⟨u, hr, hu⟩ := key _ _ _ rfl hv hl hgn hc
        exact ⟨u, hr, hu⟩
      · trivial
    · rename_i cells
      refine loadSat_chk fun ⟨hl, hgn⟩ => ?_
      cases hx with
      | tv hx =>
      cases hx with
      | ptr _ a us hv hs =>
      have hex : VRs σ ι ((cells.take n).map .tv) ((List.range (cells.take n).length).map us) := by
        refine ⟨by simp, fun j c u h1 h2 => ?_⟩
        simp only [List.getElem?_map] at h1 h2
        cases hj : (cells.take n)[j]? with
        | none => rw [hj] at h1; cases h1
        | some c' =>
          rw [hj] at h1
          have hlt := (List.getElem?_eq_some_iff.1 hj).1
          rw [List.getElem?_range hlt] at h2
          simp at h1 h2; subst h1 h2
          refine .tv (hv j c' ?_)
          rw [List.getElem?_take] at hj
          split at hj
          · exact hj
          · cases hj
      obtain ⟨u, hr, hu⟩ := key a _ _ rfl hex (by rw [List.length_map]; exact hl) hgn (fun j u h2 => by
        simp only [List.getElem?_map] at h2
        by_cases hlt : j < (cells.take n).length
        · rw [List.getElem?_range hlt] at h2
          simp at h2; subst h2
          have hlt' : j < cells.length := by have := hlt; simp at this; omega
          exact h.sure _ _ (hs j _ (List.getElem?_eq_getElem hlt'))
        · rw [List.getElem?_eq_none (by simpa using hlt)] at h2; cases h2)
      exact ⟨u, hr, hu⟩
    · trivial
  · trivial
theorem sat_load {t : TypeId} {x : AV} {ux : Value} (h : WR B w0 σ ι H w) (hx : VR σ ι x ux) (hs : s = (do pure (.value (← Instr.loadAt t ux)))) :
    Sat P s w B w0 σ ι H id (evLoad P H t x) := by
  subst hs
  have hl := load_ok (P := P) (t := t) h hx
  generalize evLoad P H t x = r at hl
  cases r with
  | val v e =>
    cases e with
    | no =>
      obtain ⟨u, hr, hu⟩ := hl
      exact Sat.pure h (by simp [hr]) hu
    | _ => exact hl.elim
  | fail => trivial
  | _ => exact hl.elim
end
end Go.Proofs.Ythmimpiegnnmdaa
