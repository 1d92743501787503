/- Slicing and append. -/
import Derived.Test.YthmimpiegnnmdaaAbs7
namespace Go.Proofs.Ythmimpiegnnmdaa
open Go.RowKit
set_option linter.unusedSimpArgs false
set_option linter.unusedVariables false
section
variable {P : Program} {B : Base} {w0 w : World} {σ : Facts} {ι : Where} {H : Hp} {id : Id} {s : Sem Next}

/-! ### x[l:h] -/
def bnd (d : Int) : Option AV → Option Int
  | none => some d
  | some (.tv (.int _ n)) => some n
  | _ => none
def evSlice (P : Program) (t : TypeId) (x : AV) (lo hi : Option AV) : Res := match x with
  | .tv (.str st) => if tStr P t then match bnd 0 lo, bnd st.size hi with
    | some l, some h => .need (0 ≤ l ∧ l ≤ h ∧ h ≤ (st.size : Int)) (.val (.tv (.str (st.extract l.toNat h.toNat))) .no)
    | _, _ => .fail else .fail
  | .tv (.sli sz rows) => match tElem P t with
    | some e => match tSz P e, bnd 0 lo, bnd rows.length hi with
      | some n, some l, some h => if n = sz then .need (0 ≤ l ∧ l ≤ h ∧ h ≤ (rows.length : Int)) (.val (.tv (.sli sz ((rows.take h.toNat).drop l.toNat))) .no) else .fail
      | _, _, _ => .fail
    | none => .fail
  | .tv .nils => match tElem P t with
    | some e => match tSz P e, bnd 0 lo, bnd (([] : List (List TV)).length) hi with
      | some _, some l, some h => .need (0 ≤ l ∧ l ≤ h ∧ h ≤ (([] : List (List TV)).length : Int)) (.val (.tv .nils) .no)
      | _, _, _ => .fail
    | none => .fail
  | .sl i sz off len => match tElem P t with
    | some e => match tSz P e, bnd 0 lo, bnd len hi with
      | some n, some l, some h => if n = sz then .need (0 ≤ l ∧ l ≤ h ∧ h ≤ (len : Int)) (.val (.sl i sz (off + l.toNat) (h.toNat - l.toNat)) .no) else .fail
      | _, _, _ => .fail
    | none => .fail
  | _ => .fail
/-- A bound, told and in the machine. -/
def BndR (d : Int) (b : Option AV) (u : Option Value) (n : Int) : Prop := (b = none ∧ u = none ∧ n = d) ∨ (∃ k, b = some (.tv (.int k n)) ∧ u = some (.int k n))
def OVR (σ : Facts) (ι : Where) : Option AV → Option Value → Prop
  | none, none => True
  | some v, some x => VR σ ι v x
  | _, _ => False
theorem bnd_ok {d n : Int} {b : Option AV} {u : Option Value} (h : bnd d b = some n) (hu : OVR σ ι b u) : BndR d b u n := by
  cases b with
  | none =>
    cases u with
    | none => simp [bnd] at h; exact .inl ⟨rfl, rfl, h.symm⟩
    | some x => exact hu.elim
  | some v =>
    cases u with
    | none => exact hu.elim
    | some x =>
      unfold bnd at h
      split at h
      · rename_i e; cases e
      · rename_i k m e
        cases h; cases e
        cases hu with
        | tv hu => cases hu; exact .inr ⟨k, rfl, rfl⟩
      · cases h
theorem run_bounds {isSlice : Bool} {len cap : Nat} {lo hi : Option AV} {ulo uhi : Option Value} {l h : Int} (hl : BndR 0 lo ulo l) (hh : BndR len hi uhi h) (h0 : 0 ≤ l) (h1 : l ≤ h) (h2 : h ≤ (cap : Int)) :
    (Instr.sliceBounds isSlice len cap ulo uhi none).run P w = .ok (l.toNat, h.toNat, cap) w := by
  have e1 : ∀ (k : IntKind) (n : Int) (y : Nat) (code : BoundsCode), 0 ≤ n → n ≤ (y : Int) → (Instr.sliceBound (.int k n) y code).run P w = .ok n.toNat w := by
    intro k n y code a b
    simp [Instr.sliceBound, asIntOf, a, b]
  have hh0 : 0 ≤ h := by omega
  have hcast : l ≤ ((h.toNat : Nat) : Int) := by omega
  rcases hl with ⟨_, rfl, rfl⟩ | ⟨k, _, rfl⟩ <;> rcases hh with ⟨_, rfl, rfl⟩ | ⟨k', _, rfl⟩
  · simp [Instr.sliceBounds]
  · simp [Instr.sliceBounds, e1 k' h cap _ hh0 h2]
  · have := e1 k l len .sliceB h0 (by omega)
    simp [Instr.sliceBounds, this]
  · have := e1 k l h.toNat .sliceB h0 hcast
    simp [Instr.sliceBounds, e1 k' h cap _ hh0 h2, this]
theorem sat_slice {t : TypeId} {x : AV} {ux : Value} {lo hi : Option AV} {ulo uhi : Option Value} (h : WR B w0 σ ι H w) (hx : VR σ ι x ux)
    (hlo : OVR σ ι lo ulo) (hhi : OVR σ ι hi uhi)
    (hs : s = (do pure (.value (← Instr.sliceAt t ux ulo uhi none)))) : Sat P s w B w0 σ ι H id (evSlice P t x lo hi) := by
  subst hs
  unfold evSlice
  split
  · rename_i st
    split
    · rename_i ht
      split
      · rename_i l hh' e1 e2
        intro ⟨h0, h1, h2⟩
        cases hx with
        | tv hx => cases hx with
        | str _ hst =>
        have hb := run_bounds (P := P) (w := w) (isSlice := false) (len := st.size) (cap := st.size) (bnd_ok e1 hlo) (bnd_ok e2 hhi) h0 h1 h2
        refine sat_run h (.tv (.str _ ?_)) ?_
        · rw [ByteArray.size_extract]; omega
        · simp [Instr.sliceAt, run_underlying (tStr_true ht), Instr.slice, hb]
      · trivial
    · trivial
  · rename_i sz rows
    split
    · rename_i e he
      split
      · rename_i n l hh' hn e1 e2
        split
        · rename_i en; subst en
          intro ⟨h0, h1, h2⟩
          cases hx with
          | tv hx => cases hx with
          | sli _ _ A cap us hc hm hA hz hv hs' =>
          have hb := run_bounds (P := P) (w := w) (isSlice := true) (len := rows.length) (cap := cap) (bnd_ok e1 hlo) (bnd_ok e2 hhi) h0 h1 (by omega)
          have hrun : (Instr.sliceAt t (.slice A rows.length cap) ulo uhi none).run P w = .ok (.slice (if cap = l.toNat then A else A.map (·.add (l.toNat * n))) (hh'.toNat - l.toNat) (cap - l.toNat)) w := by
            simp [Instr.sliceAt, run_underlying (tElem_some he), Instr.slice, hb, run_sizeOf' hn]
          have hlen : ((rows.take hh'.toNat).drop l.toNat).length = hh'.toNat - l.toNat := by simp; omega
          have at_ : ∀ i r, ((rows.take hh'.toNat).drop l.toNat)[i]? = some r → rows[l.toNat + i]? = some r := by
            intro i r hr
            rw [List.getElem?_drop, List.getElem?_take] at hr
            split at hr
            · exact hr
            · cases hr
          refine sat_run h (.tv ?_) hrun
          rw [← hlen]
          refine .sli _ _ _ _ (fun i j => us (l.toNat + i) j) (by omega) (by omega) ?_ ?_ (fun i j r c a b => hv _ j r c (at_ i r a) b) ?_
          · intro he
            split at he
            · rename_i hcap
              have : ((rows.take hh'.toNat).drop l.toNat).length = 0 := by omega
              exact List.eq_nil_of_length_eq_zero this
            · cases A with
              | none =>
                have := hA rfl; subst this; simp
              | some a => simp at he
          · intro r hr
            exact hz r (List.mem_of_mem_take (List.mem_of_mem_drop hr))
          · intro a i j r c hA' hr hc'
            have hi : i < ((rows.take hh'.toNat).drop l.toNat).length := (List.getElem?_eq_some_iff.1 hr).1
            have hne : ¬ (cap = l.toNat) := by omega
            rw [if_neg hne] at hA'
            cases A with
            | none => simp at hA'
            | some a0 =>
              simp at hA'; subst hA'
              have := hs' a0 (l.toNat + i) j r c rfl (at_ i r hr) hc'
              have e3 : (a0.add (l.toNat * n)).add (i * n + j) = a0.add ((l.toNat + i) * n + j) := by
                unfold Addr.add
                by_cases g0 : l.toNat * n = 0
                · rw [if_pos g0, Nat.add_mul, g0]; simp
                · by_cases g1 : i * n + j = 0
                  · rw [if_pos g1, if_neg g0, Nat.add_mul, Nat.add_assoc, g1]; simp [g0]
                  · have g2 : (l.toNat + i) * n + j ≠ 0 := by rw [Nat.add_mul]; omega
                    rw [if_neg g1, if_neg g0, if_neg g2]
                    simp [Nat.add_mul, Nat.add_assoc]
              rw [e3]; exact this
        · trivial
      · trivial
    · trivial
  · split
    · rename_i e he
      split
      · rename_i n l hh' hn e1 e2
        intro ⟨h0, h1, h2⟩
        cases hx with
        | tv hx => cases hx with
        | nils =>
        have hb := run_bounds (P := P) (w := w) (isSlice := true) (len := 0) (cap := 0) (bnd_ok e1 hlo) (bnd_ok e2 hhi) h0 h1 (by simpa using h2)
        have l0 : l = 0 := by simp at h2; omega
        have h0' : hh' = 0 := by simp at h2; omega
        subst l0 h0'
        have hrun : (Instr.sliceAt t (.slice none 0 0) ulo uhi none).run P w = .ok (.slice none 0 0) w := by
          simp [Instr.sliceAt, run_underlying (tElem_some he), Instr.slice, hb, run_sizeOf' hn]
        exact sat_run h (.tv .nils) hrun
      · trivial
    · trivial
  · rename_i i sz off len
    split
    · rename_i e he
      split
      · rename_i n l hh' hn e1 e2
        split
        · rename_i en; subst en
          intro ⟨h0, h1, h2⟩
          cases hx with
          | sl _ _ _ _ b m cap hi' hc hn' hm =>
            have hb := run_bounds (P := P) (w := w) (isSlice := true) (len := len) (cap := cap) (bnd_ok e1 hlo) (bnd_ok e2 hhi) h0 h1 (by omega)
            have hrun : (Instr.sliceAt t (.slice (some ⟨b, off * n, none⟩) len cap) ulo uhi none).run P w = .ok (.slice (if cap = l.toNat then some ⟨b, off * n, none⟩ else some ((⟨b, off * n, none⟩ : Addr).add (l.toNat * n))) (hh'.toNat - l.toNat) (cap - l.toNat)) w := by
              simp [Instr.sliceAt, run_underlying (tElem_some he), Instr.slice, hb, run_sizeOf' hn]
            refine sat_run h ?_ hrun
            by_cases hcl : cap = l.toNat
            · rw [if_pos hcl]
              have z1 : hh'.toNat - l.toNat = 0 := by omega
              have z2 : cap - l.toNat = 0 := by omega
              rw [z1, z2]; exact .sl0 _ _ _ _
            · rw [if_neg hcl, add_none, ← Nat.add_mul]
              refine .sl _ _ _ _ b m _ hi' (by omega) ?_ (by omega)
              have : off + l.toNat + (cap - l.toNat) = off + cap := by omega
              rw [this]; exact hn'
          | sl0 _ _ _ A =>
            have hb := run_bounds (P := P) (w := w) (isSlice := true) (len := 0) (cap := 0) (bnd_ok e1 hlo) (bnd_ok e2 hhi) h0 h1 (by simpa using h2)
            have l0 : l = 0 := by have := h2; simp at this; omega
            have h0' : hh' = 0 := by have := h2; simp at this; omega
            subst l0 h0'
            have hrun : (Instr.sliceAt t (.slice A 0 0) ulo uhi none).run P w = .ok (.slice A 0 0) w := by
              simp [Instr.sliceAt, run_underlying (tElem_some he), Instr.slice, hb, run_sizeOf' hn]
            exact sat_run h (.sl0 _ _ _ _) hrun
        · trivial
      · trivial
    · trivial
  · trivial

/-! ### append -/
theorem hdel_hset (H : Hp) (i : Id) (o : AO) : hdel (hset H i o) i = hdel H i := by
  induction H with
  | nil => rfl
  | cons p r ih =>
    obtain ⟨k, x⟩ := p
    simp only [hset]
    by_cases e : k = i
    · simp [e, hdel]
    · simp [e, hdel, ih]
/-- A block goes over to another id. -/
theorem WR.rename (h : WR B w0 σ ι H w) {i : Id} {o : AO} {b n : Nat} (hi : hget H i = some o) (hb : ι i = some (some (b, n))) (hid : ι id = none) :
    WR B w0 σ (wput ι id (some (b, n))) ((id, o) :: hdel H i) w := by
  have hle := wput_le (x := some (b, n)) hid
  have old : ∀ j y, hget ((id, o) :: hdel H i) j = some y → j = id ∧ y = o ∨ j ≠ id ∧ j ≠ i ∧ hget H j = some y := by
    intro j y hj
    simp only [hget] at hj
    by_cases e : id = j
    · rw [if_pos e] at hj; cases hj; exact .inl ⟨e.symm, rfl⟩
    · rw [if_neg e, hget_hdel] at hj
      by_cases e2 : i = j
      · rw [if_pos e2] at hj; cases hj
      · rw [if_neg e2] at hj; exact .inr ⟨fun x => e x.symm, fun x => e2 x.symm, hj⟩
  refine ⟨h.hB, h.below, ?_, ?_, ?_, ?_, h.sure, ?_, h.newf⟩
  · intro j y b' m hj hi'
    rcases old j y hj with ⟨rfl, rfl⟩ | ⟨hne, _, hj⟩
    · rw [wput_at] at hi'; cases hi'
      obtain ⟨h1, obj, h2, h3⟩ := h.obj _ _ _ _ hi hb
      exact ⟨h1, obj, h2, h3.mono (fun _ _ h => h) hle⟩
    · rw [wput_ne _ hne] at hi'
      obtain ⟨h1, obj, h2, h3⟩ := h.obj _ _ _ _ hj hi'
      exact ⟨h1, obj, h2, h3.mono (fun _ _ h => h) hle⟩
  · intro j y hj hi'
    rcases old j y hj with ⟨rfl, rfl⟩ | ⟨hne, _, hj⟩
    · rw [wput_at] at hi'; cases hi'
    · rw [wput_ne _ hne] at hi'; exact h.ghost j y hj hi'
  · intro j y hj
    rcases old j y hj with ⟨rfl, rfl⟩ | ⟨hne, _, hj⟩
    · rw [wput_at]; simp
    · rw [wput_ne _ hne]; exact h.dom j y hj
  · intro j j' o1 o2 b1 n1 n2 h1 h2 h3 h4
    rcases old j o1 h1 with ⟨rfl, rfl⟩ | ⟨hne, hni, h1'⟩ <;> rcases old j' o2 h2 with ⟨rfl, rfl⟩ | ⟨hne', hni', h2'⟩
    · rfl
    · rw [wput_at] at h3; cases h3
      rw [wput_ne _ hne'] at h4
      exact absurd (h.inj _ _ _ _ _ _ _ h2' hi h4 hb) hni'
    · rw [wput_at] at h4; cases h4
      rw [wput_ne _ hne] at h3
      exact absurd (h.inj _ _ _ _ _ _ _ h1' hi h3 hb) hni
    · rw [wput_ne _ hne] at h3; rw [wput_ne _ hne'] at h4
      exact h.inj j j' o1 o2 b1 n1 n2 h1' h2' h3 h4
  · intro a v hs j y b' m hj hi' hb'
    rcases old j y hj with ⟨rfl, rfl⟩ | ⟨hne, _, hj⟩
    · rw [wput_at] at hi'; cases hi'
      exact h.stab a v hs _ _ _ _ hi hb hb'
    · rw [wput_ne _ hne] at hi'
      exact h.stab a v hs j y b' m hj hi' hb'
/-- The source of an append: its cells, and how many elements they are. -/
def evSrc (P : Program) (H : Hp) (n : Nat) (e xt : TypeId) (x : AV) : Option (List AV × Nat) := match x with
  | .tv (.sli sz rows) => if sz = n then (tElem P xt).map fun _ => (rows.flatten.map .tv, rows.length) else none
  | .tv .nils => (tElem P xt).map fun _ => ([], 0)
  | .tv (.str st) => if tStr P xt ∧ n = 1 then some (st.data.toList.map (fun b => .tv (.int .u8 b.toNat)), st.size) else none
  | .sl i sz off len => if sz = n then match hget H i with
    | some (.row cells _) => if ((cells.drop (off * n)).take (len * n)).length = len * n ∧ ((cells.drop (off * n)).take (len * n)).all AV.one then (tElem P xt).map fun _ => ((cells.drop (off * n)).take (len * n), len) else none
    | _ => none else none
  | _ => none
def evAppend (P : Program) (H : Hp) (id : Id) (st xt : TypeId) (sv x : AV) : Res := match tElem P st with
  | some e => match tSz P e, tBy P e, tZero P e with
    | some n, some by', some z => match z.cells with
      | some zc => if zc.length = n ∧ 0 < n then match evSrc P H n e xt x with
        | some (news, m) => match sv with
          | .tv .nils => .need (m ≤ 9223372036854775807 ∧ m * by' ≤ 140737488355328) (.val (.sl id n 0 m) (.new (.row news false)))
          | .sl i sz off len => match hget H i with
            | some (.row cells ro) => .need (sz = n ∧ off = 0 ∧ cells.length = len * n ∧ len + m ≤ 9223372036854775807 ∧ (len + m) * by' ≤ 140737488355328) (.val (.sl id n 0 (len + m)) (.repl i (.row (cells ++ news) ro)))
            | _ => .fail
          | _ => .fail
        | none => .fail
      else .fail
      | none => .fail
    | _, _, _ => .fail
  | none => .fail
theorem src_ok {n m : Nat} {e xt : TypeId} {x : AV} {ux : Value} {news : List AV} (hx : VR σ ι x ux) (h : evSrc P H n e xt x = some (news, m)) (hu8 : True) :
    (P.underlying xt = some .string ∨ ∃ e', P.underlying xt = some (.slice e')) ∧
    ∀ w, WR B w0 σ ι H w → (∀ w', (Builtin.lenOf ux).run P w' = .ok m w') ∧ ∃ us, (∀ w' : World, w'.heap = w.heap → (Builtin.firstCells n m ux).run P w' = .ok us.toArray w') ∧ VRs σ ι news us ∧ news.length = m * n ∧ ∀ u ∈ us, u.oneCell' = true := by
  unfold evSrc at h
  split at h
  · rename_i sz rows
    split at h
    · rename_i hsz; subst hsz
      cases he : tElem P xt with
      | none => rw [he] at h; cases h
      | some e' =>
        rw [he] at h; simp only [Option.map_some, Option.some.injEq, Prod.mk.injEq] at h; obtain ⟨rfl, rfl⟩ := h
        refine ⟨.inr ⟨_, tElem_some he⟩, fun w hw => ?_⟩
        cases hx with
        | tv hx => cases hx with
        | sli _ _ A cap us hc hm hA hz hv hs' =>
        have hflat : ∀ (rs : List (List TV)), (∀ r ∈ rs, r.length = sz) → rs.flatten.length = rs.length * sz := by
          intro rs
          induction rs with
          | nil => simp
          | cons r rs ih => intro hh; rw [List.flatten_cons, List.length_append, hh r (by simp), ih (fun q hq => hh q (by simp [hq])), List.length_cons, Nat.succ_mul]; omega
        have hget : ∀ (rs : List (List TV)), (∀ r ∈ rs, r.length = sz) → ∀ q c, rs.flatten[q]? = some c → ∃ r, rs[q / sz]? = some r ∧ r[q % sz]? = some c := by
          intro rs
          induction rs with
          | nil => intro _ q c h; simp at h
          | cons r rs ih =>
            intro hh q c hq
            have hr : r.length = sz := hh r (by simp)
            rw [List.flatten_cons, List.getElem?_append] at hq
            split at hq
            · rename_i hlt
              refine ⟨r, ?_, ?_⟩
              · rw [Nat.div_eq_of_lt (by omega)]; rfl
              · rw [Nat.mod_eq_of_lt (by omega)]; exact hq
            · rename_i hge
              obtain ⟨r', h1, h2⟩ := ih (fun q hq => hh q (by simp [hq])) _ c hq
              have hz0 : 0 < sz := by
                rcases Nat.eq_zero_or_pos sz with h | h
                · subst h
                  have hr' := hh r' (by simp [List.mem_of_getElem? h1])
                  have := (List.getElem?_eq_some_iff.1 h2).1
                  omega
                · exact h
              have e1 : q = (q - sz) + sz := by omega
              refine ⟨r', ?_, ?_⟩
              · rw [e1, Nat.add_div_right _ hz0, List.getElem?_cons_succ, ← hr]; rw [hr]; rw [hr] at h1; exact h1
              · rw [e1, Nat.add_mod_right]; rw [hr] at h2; exact h2
        refine ⟨fun _ => by simp [Builtin.lenOf], ?_⟩
        refine ⟨(List.range (rows.length * sz)).map (fun q => us (q / sz) (q % sz)), ?_, ⟨by rw [List.length_map, List.length_map, hflat rows hz, List.length_range], ?_⟩, by rw [List.length_map, hflat rows hz], ?_⟩
        · cases A with
          | none =>
            have := hA rfl; subst this
            intro w' _; simp [Builtin.firstCells]
          | some a =>
            have hl : ((List.range (rows.length * sz)).map (fun q => us (q / sz) (q % sz))).length = rows.length * sz := by simp
            intro w' hw'
            have := run_loadCells_list (P := P) w' a ((List.range (rows.length * sz)).map (fun q => us (q / sz) (q % sz))) (fun j v hj => by
              simp only [List.getElem?_map] at hj
              by_cases hlt : j < rows.length * sz
              · rw [List.getElem?_range hlt] at hj
                simp at hj; subst hj
                have hlt' : j < rows.flatten.length := by rw [hflat rows hz]; exact hlt
                obtain ⟨r, h1, h2⟩ := hget rows hz j _ (List.getElem?_eq_getElem hlt')
                have := hs' a (j / sz) (j % sz) r _ rfl h1 h2
                have e2 : j / sz * sz + j % sz = j := by rw [Nat.mul_comm]; exact Nat.div_add_mod j sz
                rw [e2] at this
                have hc2 : w'.cell? (a.add j) = w.cell? (a.add j) := by simp [World.cell?, hw']
                rw [hc2]; exact hw.sure _ _ this
              · rw [List.getElem?_eq_none (by simpa using hlt)] at hj; cases hj)
            rw [hl] at this
            simp [Builtin.firstCells, this]
        · intro j c u h1 h2
          simp only [List.getElem?_map] at h1 h2
          cases hj : rows.flatten[j]? with
          | none => rw [hj] at h1; cases h1
          | some c' =>
            rw [hj] at h1; simp at h1; subst h1
            have hlt : j < rows.length * sz := by rw [← hflat rows hz]; exact (List.getElem?_eq_some_iff.1 hj).1
            rw [List.getElem?_range hlt] at h2
            simp at h2; subst h2
            obtain ⟨r, h3, h4⟩ := hget rows hz j _ hj
            exact .tv (hv _ _ r _ h3 h4)
        · intro u hu
          simp only [List.mem_map, List.mem_range] at hu
          obtain ⟨q, hq, rfl⟩ := hu
          have hlt' : q < rows.flatten.length := by rw [hflat rows hz]; exact hq
          obtain ⟨r, h1, h2⟩ := hget rows hz q _ (List.getElem?_eq_getElem hlt')
          exact (VR.oneCell (σ := σ) (ι := ι) (.tv (hv _ _ r _ h1 h2)) rfl).1
    · cases h
  · cases he : tElem P xt with
    | none => rw [he] at h; cases h
    | some e' =>
      rw [he] at h; simp only [Option.map_some, Option.some.injEq, Prod.mk.injEq] at h; obtain ⟨rfl, rfl⟩ := h
      refine ⟨.inr ⟨_, tElem_some he⟩, fun w hw => ?_⟩
      cases hx with
      | tv hx => cases hx; exact ⟨fun _ => by simp [Builtin.lenOf], [], fun _ _ => by simp [Builtin.firstCells], VRs.nil _ _, by simp, fun u hu => by simp at hu⟩
  · rename_i st
    split at h
    · rename_i hc; obtain ⟨ht, rfl⟩ := hc
      simp only [Option.some.injEq, Prod.mk.injEq] at h; obtain ⟨rfl, rfl⟩ := h
      refine ⟨.inl (tStr_true ht), fun w hw => ?_⟩
      cases hx with
      | tv hx => cases hx with
      | str _ hsz =>
      refine ⟨fun _ => by simp [Builtin.lenOf], st.data.toList.map (fun b => Value.int .u8 b.toNat), ?_, ⟨by simp, ?_⟩, by simp, ?_⟩
      · intro w' _
        have e1 : st.extract 0 st.size = st := by simp
        simp only [Builtin.firstCells, e1, Sem.run_pure]
        congr 1
        apply Array.toList_inj.1
        simp
      · intro j c u h1 h2
        simp only [List.getElem?_map] at h1 h2
        cases hj : st.data.toList[j]? with
        | none => rw [hj] at h1; cases h1
        | some b => rw [hj] at h1 h2; simp at h1 h2; subst h1 h2; exact .tv (.int _ _)
      · intro u hu
        simp only [List.mem_map] at hu
        obtain ⟨b, _, rfl⟩ := hu; rfl
    · cases h
  · rename_i i sz off len
    split at h
    · rename_i hsz; subst hsz
      split at h
      · rename_i cells ro hh
        split at h
        · rename_i hcond
          obtain ⟨hl, hone⟩ := hcond
          cases he : tElem P xt with
          | none => rw [he] at h; cases h
          | some e' =>
            rw [he] at h; simp only [Option.map_some, Option.some.injEq, Prod.mk.injEq] at h; obtain ⟨rfl, rfl⟩ := h
            refine ⟨.inr ⟨_, tElem_some he⟩, fun w hw => ?_⟩
            cases hx with
            | sl0 _ _ _ A => exact ⟨fun _ => by simp [Builtin.lenOf], [], fun _ _ => by cases A <;> simp [Builtin.firstCells, loadCells, loadCellsFrom], by simpa using VRs.nil σ ι, by simp, fun u hu => by simp at hu⟩
            | sl _ _ _ _ b m' cap hi hc hn hm =>
            refine ⟨fun _ => by simp [Builtin.lenOf], ?_⟩
            have hc' : ∀ j c, ((cells.drop (off * sz)).take (len * sz))[j]? = some c → ∃ u, w.cell? ((⟨b, off * sz, none⟩ : Addr).add j) = some u ∧ VR σ ι c u := by
              intro j c hj
              rw [List.getElem?_take] at hj
              split at hj
              · rw [List.getElem?_drop] at hj
                obtain ⟨u, h1, h2, _⟩ := hw.cell hh hi hj
                refine ⟨u, ?_, h2⟩
                rw [← h1, add_none]
              · cases hj
            let us := (List.range (len * sz)).map fun j => (w.cell? ((⟨b, off * sz, none⟩ : Addr).add j)).getD undef
            have hvs : VRs σ ι ((cells.drop (off * sz)).take (len * sz)) us := by
              refine ⟨by simp [us, hl], fun j c u h1 h2 => ?_⟩
              obtain ⟨u', h3, h4⟩ := hc' j c h1
              simp only [us, List.getElem?_map] at h2
              have hlt := (List.getElem?_eq_some_iff.1 h1).1
              rw [hl] at hlt
              rw [List.getElem?_range hlt] at h2
              simp [h3] at h2; subst h2; exact h4
            refine ⟨us, ?_, hvs, hl, hvs.oneCells hone⟩
            have hul : us.length = len * sz := by simp [us]
            intro w' hw'
            have := run_loadCells_list (P := P) w' ⟨b, off * sz, none⟩ us (fun j v hj => by
              simp only [us, List.getElem?_map] at hj
              by_cases hlt : j < len * sz
              · rw [List.getElem?_range hlt] at hj
                have hlt' : j < ((cells.drop (off * sz)).take (len * sz)).length := by rw [hl]; exact hlt
                obtain ⟨u', h3, h4⟩ := hc' j _ (List.getElem?_eq_getElem hlt')
                simp [h3] at hj; subst hj
                rw [← h3]; simp [World.cell?, hw']
              · rw [List.getElem?_eq_none (by simpa using hlt)] at hj; cases hj)
            rw [hul] at this
            simp [Builtin.firstCells, this]
        · cases h
      · cases h
    · cases h
  · cases h

/-- The append itself, the source's cells at hand. -/
theorem append_room {st xt ty e : TypeId} {n m : Nat} {ux : Value} {unews : List Value} {base : Option Addr} {sLen sCap : Nat} (ht : P.underlying st = some (.slice e)) (hn : tSz P e = some n)
    (hxt : P.underlying xt = some .string ∨ ∃ e', P.underlying xt = some (.slice e')) (hlen : (Builtin.lenOf ux).run P w = .ok m w) (hcells : (Builtin.firstCells n m ux).run P w = .ok unews.toArray w) (hroom : sLen + m ≤ sCap) :
    (Builtin.append_ #[st, xt] ty #[.slice base sLen sCap, ux]).run P w = match base with
      | some a => ((storeCells (a.add (sLen * n)) unews).run P w).andThen fun _ w' => .ok (.slice base (sLen + m) sCap) w'
      | none => .ok (.slice none (sLen + m) sCap) w := by
  rcases hxt with hd | ⟨e', hd⟩
  all_goals
    cases base with
    | none => simp [Builtin.append_, run_underlying ht, run_underlying hd, run_sizeOf' hn, hlen, hcells, hroom]
    | some a => simp [Builtin.append_, run_underlying ht, run_underlying hd, run_sizeOf' hn, hlen, hcells, hroom]
theorem append_grow {st xt ty e : TypeId} {n m by' : Nat} {z : AV} {zc : List AV} {ux : Value} {uolds unews : List Value} {base : Option Addr} {sLen sCap : Nat} (ht : P.underlying st = some (.slice e)) (hn : tSz P e = some n) (hby : tBy P e = some by')
    (hz : tZero P e = some z) (hzc : z.cells = some zc) (hzl : zc.length = n)
    (hxt : P.underlying xt = some .string ∨ ∃ e', P.underlying xt = some (.slice e')) (hlen : (Builtin.lenOf ux).run P w = .ok m w) (hcells : (Builtin.firstCells n m ux).run P w.drew = .ok unews.toArray w.drew)
    (holds : (Builtin.firstCells n sLen (.slice base sLen sCap)).run P w.drew = .ok uolds.toArray w.drew) (hol : uolds.length = sLen * n) (hnl : unews.length = m * n)
    (hroom : sCap < sLen + m) (hmax : sLen + m ≤ 9223372036854775807) (hbytes : (sLen + m) * by' ≤ 140737488355328) :
    ∃ cap rest, sLen + m ≤ cap ∧ (uolds ++ unews ++ rest).length = cap * n ∧
      (Builtin.append_ #[st, xt] ty #[.slice base sLen sCap, ux]).run P w = .ok (.slice (some ⟨w.heap.size, 0, none⟩) (sLen + m) cap) (w.drew.alloc (.cells (uolds ++ unews ++ rest).toArray e)) := by
  obtain ⟨i, hi, rfl⟩ := tSz_some hn
  have hby' : i.bytes = by' := by
    unfold tBy at hby; rw [hi] at hby; simpa using hby
  subst hby'
  obtain ⟨zv, hzr, hzv⟩ := tZero_some hz
  obtain ⟨uz, huz, hvz⟩ := (hzv (fun _ _ => False) (fun _ => none)).cells hzc
  have hroom' : ¬ (sLen + m ≤ sCap) := by omega
  have hmax' : ¬ (9223372036854775807 < ((sLen : Int) + (m : Int))) := by omega
  have hfit : ¬ (281474976710656 < Builtin.nextslicecap (sLen + m) sCap * i.bytes) := by
    have := growslice_fits hroom hbytes
    omega
  have hge := grownCap_ge w (sLen + m) sCap e
  refine ⟨grownCap w (sLen + m) sCap e, (Builtin.zeroCells zv.cells (grownCap w (sLen + m) sCap e - (sLen + m))).toList, hge, ?_, ?_⟩
  · have : zv.cells.size = i.size := by rw [huz]; simp [hvz.1, hzl]
    simp only [List.length_append, Array.length_toList, size_zeroCells, this, hol, hnl, ← Nat.add_mul]
    congr 1; omega
  · have e1 : (uolds ++ unews ++ (Builtin.zeroCells zv.cells (grownCap w (sLen + m) sCap e - (sLen + m))).toList).toArray = uolds.toArray ++ (unews.toArray ++ Builtin.zeroCells zv.cells (grownCap w (sLen + m) sCap e - (sLen + m))) := by
      apply Array.toList_inj.1; simp
    rw [e1]
    rcases hxt with hd | ⟨e', hd⟩
    all_goals
      simp [Builtin.append_, run_underlying ht, run_underlying hd, run_sizeOf' hn, hlen, hroom', hmax', hfit, typeInfo, hi, Question.forced, holds, hcells, hzr, newRow, grownCap]
theorem sat_append {st xt ty : TypeId} {sv x : AV} {us ux : Value} (h : WR B w0 σ ι H w) (hid : ι id = none) (hsv : VR σ ι sv us) (hx : VR σ ι x ux)
    (hs : s = (do pure (.value (← Builtin.append_ #[st, xt] ty #[us, ux])))) : Sat P s w B w0 σ ι H id (evAppend P H id st xt sv x) := by
  subst hs
  unfold evAppend
  split
  · rename_i e he
    have hu := tElem_some he
    split
    · rename_i n by' z hn hby hz
      split
      · rename_i zc hzc
        split
        · rename_i hcond
          obtain ⟨hzl, hn0⟩ := hcond
          split
          · rename_i news m hsrc
            obtain ⟨hxt, hsr⟩ := src_ok (B := B) (w0 := w0) hx hsrc trivial
            obtain ⟨hlen, unews, hcells, hvn, hnl, hone⟩ := hsr w h
            have hul : unews.length = m * n := by rw [hvn.1, hnl]
            -- a new row
            have grow : ∀ (olds : List AV) (uolds : List Value) (sLen sCap : Nat) (base : Option Addr) (ro : Bool) (H' : Hp), us = .slice base sLen sCap → VRs σ ι olds uolds → uolds.length = sLen * n →
                (∀ w' : World, w'.heap = w.heap → (Builtin.firstCells n sLen (.slice base sLen sCap)).run P w' = .ok uolds.toArray w') → sCap < sLen + m → sLen + m ≤ 9223372036854775807 → (sLen + m) * by' ≤ 140737488355328 →
                (∀ j o, hget H' j = some o → hget H j = some o) →
                ∃ u w', Runs P (do pure (.value (← Builtin.append_ #[st, xt] ty #[us, ux]))) w u w' ∧ After B w0 σ ι ((id, .row (olds ++ news) ro) :: H') id (.sl id n 0 (sLen + m)) u w' := by
              intro olds uolds sLen sCap base ro H' hus hvo hol holds hroom hmax hbytes hH'
              subst hus
              obtain ⟨cap, rest, hcap, hsz, hrun⟩ := append_grow (ty := ty) hu hn hby hz hzc hzl hxt (hlen w) (hcells w.drew rfl) (holds w.drew rfl) hol hul hroom hmax hbytes
              refine ⟨.slice (some ⟨w.heap.size, 0, none⟩) (sLen + m) cap, _, .inl (by simp only [Sem.run_bind, hrun, Result.andThen_ok, Sem.run_pure]; rfl), σ, wput ι id (some (w.heap.size, cap * n)), ?_, ?_, fun _ _ h => h, wput_le hid, fun j hj => wput_ne j hj⟩
              · have := VR.sl (σ := σ) (ι := wput ι id (some (w.heap.size, cap * n))) id n 0 (sLen + m) w.heap.size (cap * n) cap wput_at hcap (by simp) hmax
                simpa using this
              · have h' := (h.drew).weaken hH'
                refine h'.new id hid _ (cap * n) _ ⟨_, e, rfl, by simpa using hsz, ?_, fun j c hj => ?_⟩
                · rw [List.length_append, ← hvo.1, ← hvn.1, hol, hul, ← Nat.add_mul]
                  exact Nat.mul_le_mul_right _ hcap
                · obtain ⟨u, hu1, hu2⟩ := (hvo.append hvn).get hj
                  refine ⟨u, ?_, hu2.mono (fun _ _ h => h) (wput_le hid)⟩
                  simp only [List.getElem?_toArray]
                  rw [List.getElem?_append_left (by exact (List.getElem?_eq_some_iff.1 hu1).1)]
                  exact hu1
            -- nothing is appended to nothing
            have none0 : ∀ (base : Option Addr) (ro : Bool) (H' : Hp), us = .slice base 0 0 → m = 0 → (∀ j o, hget H' j = some o → hget H j = some o) →
                ∃ u w', Runs P (do pure (.value (← Builtin.append_ #[st, xt] ty #[us, ux]))) w u w' ∧ After B w0 σ ι ((id, .row ([] ++ news) ro) :: H') id (.sl id n 0 m) u w' := by
              intro base ro H' hus hm hH'
              subst hus; subst hm
              have hnews : news = [] := List.eq_nil_of_length_eq_zero (by simpa using hnl)
              have hun : unews = [] := List.eq_nil_of_length_eq_zero (by simpa using hul)
              subst hnews; subst hun
              have hr := append_room (P := P) (w := w) (ty := ty) (base := base) (sLen := 0) (sCap := 0) hu hn hxt (hlen w) (hcells w rfl) (Nat.le_refl _)
              refine ⟨.slice base 0 0, w, .inl ?_, σ, _, .sl0 _ _ _ _, ((h.weaken hH').empty id hid ro), fun _ _ h => h, wput_le hid, fun j hj => wput_ne j hj⟩
              cases base with
              | none => simp only [Sem.run_bind, hr, Result.andThen_ok, Sem.run_pure]
              | some a => simp only [Sem.run_bind, hr, storeCells, Result.andThen_ok, Sem.run_pure]
            split
            · intro ⟨hm1, hm2⟩
              cases hsv with
              | tv hsv => cases hsv with
              | nils =>
              by_cases hm : m = 0
              · obtain ⟨u, w', g1, g2⟩ := none0 none false H rfl hm (fun _ _ h => h)
                exact ⟨u, w', g1, by simp only [List.nil_append] at g2; exact g2⟩
              · obtain ⟨u, w', g1, g2⟩ := grow [] [] 0 0 none false H rfl (VRs.nil _ _) (by simp) (fun w' _ => by simp [Builtin.firstCells]) (by omega) (by omega) (by simpa using hm2) (fun _ _ h => h)
                exact ⟨u, w', g1, by simp only [List.nil_append, Nat.zero_add] at g2; exact g2⟩
            · rename_i i sz off len
              split
              · rename_i cells ro hh
                intro ⟨e1, e2, hcl, hmax, hbytes⟩
                subst e1; subst e2
                have hdel' : ∀ j o, hget (hdel H i) j = some o → hget H j = some o := by
                  intro j o hj; rw [hget_hdel] at hj; split at hj
                  · cases hj
                  · exact hj
                cases hsv with
                | sl0 _ _ _ A =>
                  have hc0 : cells = [] := List.eq_nil_of_length_eq_zero (by simpa using hcl)
                  subst hc0
                  by_cases hm : m = 0
                  · obtain ⟨u, w', g1, g2⟩ := none0 A ro (hdel H i) rfl hm hdel'
                    exact ⟨u, w', g1, by simp only [Nat.zero_add]; exact g2⟩
                  · obtain ⟨u, w', g1, g2⟩ := grow [] [] 0 0 A ro (hdel H i) rfl (VRs.nil _ _) (by simp) (fun w' _ => by cases A <;> simp [Builtin.firstCells, loadCells, loadCellsFrom]) (by omega) (by omega) (by simpa using hbytes) hdel'
                    exact ⟨u, w', g1, g2⟩
                | sl _ _ _ _ b n' cap hi hc hn' hm =>
                  obtain ⟨hBb, obj, hw, arr, e', rfl, ha, hle, hcs⟩ := h.obj _ _ _ _ hh hi
                  have hn'' : cap * sz ≤ n' := by simpa using hn'
                  simp only [Nat.zero_mul] at *
                  let uolds := (List.range (len * sz)).map fun j => (arr[j]?).getD undef
                  have hvo : VRs σ ι cells uolds := by
                    refine ⟨by simp [uolds, hcl], fun j c u h1 h2 => ?_⟩
                    have hlt := (List.getElem?_eq_some_iff.1 h1).1
                    rw [hcl] at hlt
                    obtain ⟨u', h3, h4⟩ := hcs j c h1
                    simp only [uolds, List.getElem?_map] at h2
                    rw [List.getElem?_range hlt] at h2
                    simp [h3] at h2; subst h2; exact h4
                  have hol : uolds.length = len * sz := by simp [uolds]
                  by_cases hroom : len + m ≤ cap
                  · have hr := append_room (P := P) (w := w) (ty := ty) (base := some ⟨b, 0, none⟩) hu hn hxt (hlen w) (hcells w rfl) hroom
                    have hfits : len * sz + m * sz ≤ n' := by
                      rw [← Nat.add_mul]; exact Nat.le_trans (Nat.mul_le_mul_right _ hroom) hn''
                    have hst := run_storeCells_at P b (len * sz) e' unews 0 arr w hw (by omega) hone
                    simp only [Nat.add_zero] at hst
                    simp only [add_none, Nat.zero_add] at hr
                    -- the block, written behind its cells
                    have hwr : WR B w0 σ ι (hset H i (.row (cells ++ news) ro)) (w.setRow b (spliceG arr.toList (len * sz) unews).toArray) := by
                      refine h.write hh hi _ (setRow_heap w b arr _ e' _ hw) ⟨_, e', rfl, ?_, ?_, fun j c hj => ?_⟩ (fun k hk => setRow_other w b k _ hk) (by simp) rfl rfl rfl ?_
                      · simp only [List.size_toArray]; rw [splice_length _ _ _ (by simp; omega)]; simpa using ha
                      · rw [List.length_append, hcl, hnl]; exact hfits
                      · simp only [List.getElem?_toArray]
                        rw [spliceG_get _ _ _ (by simp; omega)]
                        rw [List.getElem?_append] at hj
                        split at hj
                        · rename_i hlt
                          rw [if_pos (by omega)]
                          obtain ⟨u, hu1, hu2⟩ := hcs j c hj
                          exact ⟨u, by simpa using hu1, hu2⟩
                        · rename_i hge
                          have hlt := (List.getElem?_eq_some_iff.1 hj).1
                          rw [if_neg (by omega), if_pos (by omega)]
                          rw [hcl] at hj
                          exact hvn.get hj
                      · intro a v hs hb
                        obtain ⟨cs', he', hlt⟩ := h.stab a v hs i _ b n' hh hi hb
                        cases he'
                        have hc1 := h.sure a v hs
                        refine ⟨?_, _, rfl, by rw [List.length_append]; omega⟩
                        have hsp : a.spot = none := by
                          cases hsp : a.spot with
                          | none => rfl
                          | some x => simp [World.cell?, hb, hw, hsp] at hc1
                        have ea : a = ⟨b, a.off, none⟩ := by cases a; simp at hb hsp ⊢; exact ⟨hb, hsp⟩
                        rw [ea] at hc1 ⊢
                        rw [cell_setRow_same w b _ arr _ e' _ hw]
                        simp only [List.getElem?_toArray]
                        rw [spliceG_get _ _ _ (by simp; omega), if_pos (by omega)]
                        simp [World.cell?, hw] at hc1
                        simpa using hc1
                    have hren := hwr.rename (id := id) (i := i) (o := .row (cells ++ news) ro) (by rw [hget_hset]; simp [hh]) hi hid
                    rw [hdel_hset] at hren
                    refine ⟨.slice (some ⟨b, 0, none⟩) (len + m) cap, _, .inl ?_, σ, wput ι id (some (b, n')), ?_, hren, fun _ _ h => h, wput_le hid, fun j hj => wput_ne j hj⟩
                    · simp only [Sem.run_bind, hr, hst, Result.andThen_ok, Sem.run_pure, spliceG]
                    · have := VR.sl (σ := σ) (ι := wput ι id (some (b, n'))) id sz 0 (len + m) b n' cap wput_at hroom (by simpa using hn'') hmax
                      simpa using this
                  · have holds : ∀ w' : World, w'.heap = w.heap → (Builtin.firstCells sz len (.slice (some ⟨b, 0, none⟩) len cap)).run P w' = .ok uolds.toArray w' := by
                      intro w' hw'
                      have := run_loadCells_list (P := P) w' ⟨b, 0, none⟩ uolds (fun j v hj => by
                        have hlt := (List.getElem?_eq_some_iff.1 hj).1
                        rw [hol] at hlt
                        simp only [uolds, List.getElem?_map] at hj
                        rw [List.getElem?_range hlt] at hj
                        have hlt2 : j < arr.size := by omega
                        simp [hlt2] at hj; subst hj
                        rw [add_none]
                        simp [World.cell?, hw', hw, hlt2])
                      rw [hol] at this
                      simp [Builtin.firstCells, this]
                    exact grow cells uolds len cap (some ⟨b, 0, none⟩) ro (hdel H i) rfl hvo hol holds (by omega) hmax hbytes hdel'
              · trivial
            · trivial
          · trivial
        · trivial
      · trivial
    · trivial
  · trivial
end
end Go.Proofs.Ythmimpiegnnmdaa
