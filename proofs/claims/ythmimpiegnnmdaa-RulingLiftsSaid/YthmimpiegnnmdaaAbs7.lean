/- Structs and slices that are built; slicing; append; min, max. -/
import Derived.Test.YthmimpiegnnmdaaAbs6
import Derived.Laws.AppendOwn
namespace Go.Proofs.Ythmimpiegnnmdaa
open Go.RowKit
set_option linter.unusedSimpArgs false
set_option linter.unusedVariables false
section
variable {P : Program} {B : Base} {w0 w : World} {σ : Facts} {ι : Where} {H : Hp} {id : Id} {s : Sem Next}

def spliceG {α : Type} (cs : List α) (off : Nat) (news : List α) : List α := cs.take off ++ news ++ cs.drop (off + news.length)
theorem splice_length {α : Type} (cs news : List α) (off : Nat) (h : off + news.length ≤ cs.length) : (spliceG cs off news).length = cs.length := by
  simp [spliceG]; omega
theorem spliceG_get {α : Type} (cs news : List α) (off : Nat) (h : off + news.length ≤ cs.length) (j : Nat) :
    (spliceG cs off news)[j]? = if j < off then cs[j]? else if j < off + news.length then news[j - off]? else cs[j]? := splice_get cs news off h j
theorem fold_sets (off : Nat) : ∀ (vs : List Value) (k : Nat) (arr : Array Value), off + k + vs.length ≤ arr.size →
    ((vs.zipIdx k).foldl (fun (cs : Array Value) (x : Value × Nat) => cs.setIfInBounds (off + x.2) x.1) arr).toList = spliceG arr.toList (off + k) vs := by
  intro vs
  induction vs with
  | nil => intro k arr h; simp [spliceG]
  | cons v vs ih =>
    intro k arr h
    simp only [List.zipIdx_cons, List.foldl_cons]
    simp only [List.length_cons] at h
    rw [ih (k + 1) _ (by simp; omega)]
    apply List.ext_getElem?
    intro j
    rw [spliceG_get _ _ _ (by simp; omega), spliceG_get _ _ _ (by simp; omega)]
    simp only [Array.toList_setIfInBounds, List.getElem?_set, List.length_cons]
    by_cases h1 : j < off + k
    · rw [if_pos (by omega), if_pos h1, if_neg (by omega)]
    · rw [if_neg h1]
      by_cases h2 : j = off + k
      · subst h2
        rw [if_pos (by omega), if_pos rfl, if_pos (by simp; omega), if_pos (by omega)]
        simp
      · rw [if_neg (by omega)]
        by_cases h3 : j < off + (k + 1) + vs.length
        · rw [if_pos h3, if_pos (by omega)]
          have : j - (off + k) = (j - (off + (k + 1))) + 1 := by omega
          rw [this]; simp
        · rw [if_neg h3, if_neg (by omega), if_neg (by omega)]
theorem VRs.splice {cs vs : List AV} {us uvs : List Value} (h : VRs σ ι cs us) (hv : VRs σ ι vs uvs) (off : Nat) : VRs σ ι (splice cs off vs) (spliceG us off uvs) := by
  unfold Go.Proofs.Ythmimpiegnnmdaa.splice spliceG
  rw [hv.1]
  exact ((h.take off).append hv).append (h.drop _)
/-- Parts laid into cells, by their places. -/
def fillG (place : Nat → Option (Nat × Nat)) : List AV → List (Nat × AV) → Option (List AV)
  | cs, [] => some cs
  | cs, (i, v) :: r => match place i, v.cells with
    | some (off, n), some vs => if vs.length = n ∧ off + n ≤ cs.length then fillG place (splice cs off vs) r else none
    | _, _ => none
theorem fill_ok (place : Nat → Option (Nat × Nat)) : ∀ (parts : List (Nat × AV)) (uparts : List (Nat × Value)) (cs : List AV) (us : Array Value) (out : List AV),
    VRs σ ι cs us.toList → uparts.map (·.1) = parts.map (·.1) → VRs σ ι (parts.map (·.2)) (uparts.map (·.2)) → fillG place cs parts = some out →
    ∃ arr, Instr.fill place us uparts = some arr ∧ VRs σ ι out arr.toList := by
  intro parts
  induction parts with
  | nil =>
    intro uparts cs us out h h1 h2 h3
    have : uparts = [] := by simpa using h1
    subst this
    simp [fillG] at h3; subst h3
    exact ⟨us, rfl, h⟩
  | cons p parts ih =>
    intro uparts cs us out h h1 h2 h3
    obtain ⟨i, v⟩ := p
    cases uparts with
    | nil => simp at h1
    | cons q uparts =>
      obtain ⟨i', u⟩ := q
      simp only [List.map_cons, List.cons.injEq] at h1
      obtain ⟨rfl, h1⟩ := h1
      simp only [List.map_cons] at h2
      obtain ⟨u', us', he, hv, h2⟩ := h2.cons_inv
      simp only [List.cons.injEq] at he
      obtain ⟨rfl, rfl⟩ := he
      simp only [fillG] at h3
      split at h3
      · rename_i off n vs hp hc
        split at h3
        · rename_i hcond
          obtain ⟨hl, hle⟩ := hcond
          obtain ⟨uvs, hu, hvs⟩ := hv.cells hc
          have hlen : us.toList.length = cs.length := h.1
          have hsz : uvs.length = n := by rw [hvs.1, hl]
          have hfold := fold_sets off uvs 0 us (by simp at hlen; omega)
          obtain ⟨arr, ha, hr⟩ := ih uparts (splice cs off vs) ((uvs.zipIdx 0).foldl (fun (cs : Array Value) (x : Value × Nat) => cs.setIfInBounds (off + x.2) x.1) us) out
            (by rw [hfold]; exact h.splice hvs off) h1 h2 h3
          refine ⟨arr, ?_, hr⟩
          simp only [Instr.fill, hp]
          rw [if_neg]
          · rw [← ha, hu]
            congr 1
            rw [← Array.foldl_toList]
            simp
          · rw [hu]; simp; simp at hlen; omega
        · cases h3
      · cases h3
/-- The places of a struct's fields: offset and size. -/
def tPlaces (P : Program) (t : TypeId) : Option (List (Nat × Nat)) := match P.underlying t with
  | some (.struct fs) => fs.toList.mapM fun f => (tSz P f.type).map fun n => (f.offset, n)
  | _ => none
theorem mapM_run : ∀ (l : List Field) (out : List (Nat × Nat)), (l.mapM fun f => (tSz P f.type).map fun n => (f.offset, n)) = some out →
    ∀ w, (l.mapM (fun f => do pure (f.offset, ← sizeOf f.type) : Field → Sem (Nat × Nat))).run P w = .ok out w := by
  intro l
  induction l with
  | nil => intro out h w; simp at h; subst h; simp
  | cons f l ih =>
    intro out h w
    simp only [List.mapM_cons] at h
    cases hn : tSz P f.type with
    | none => rw [hn] at h; simp at h
    | some n =>
      rw [hn] at h
      simp only [Option.map_some, Option.bind_eq_bind, Option.bind_some] at h
      cases hm : (l.mapM fun f => (tSz P f.type).map fun n => (f.offset, n)) with
      | none => rw [hm] at h; simp at h
      | some o =>
        rw [hm] at h; simp at h; subst h
        simp only [List.mapM_cons, Sem.run_bind, run_sizeOf' hn, Result.andThen_ok, Sem.run_pure, ih o hm]
/-- 'T{..}'. -/
def evBuild' (P : Program) (t : TypeId) (parts : List (Nat × AV)) : Res := match tZero P t with
  | some z => match z.cells with
    | some zc => match tPlaces P t with
      | some pl => match fillG (pl[·]?) zc parts with
        | some cs => .val (.agg cs) .no
        | none => .fail
      | none => match tArr P t with
        | some (_, e) => match tSz P e with
          | some n => match fillG (fun i => some (i * n, n)) zc parts with
            | some cs => .val (.agg cs) .no
            | none => .fail
          | none => .fail
        | none => .fail
    | none => .fail
  | none => .fail
theorem sat_build {t : TypeId} {parts : List (Nat × AV)} {uparts : Array (Nat × Value)} (h : WR B w0 σ ι H w) (h1 : uparts.toList.map (·.1) = parts.map (·.1)) (h2 : VRs σ ι (parts.map (·.2)) (uparts.toList.map (·.2)))
    (hs : s = (do pure (.value (← Instr.build t uparts)))) : Sat P s w B w0 σ ι H id (evBuild' P t parts) := by
  subst hs
  unfold evBuild'
  split
  · rename_i z hz
    obtain ⟨zv, hzr, hzv⟩ := tZero_some hz
    split
    · rename_i zc hzc
      obtain ⟨uz, huz, hvz⟩ := (hzv σ ι).cells hzc
      split
      · rename_i pl hpl
        split
        · rename_i cs hf
          obtain ⟨arr, ha, hr⟩ := fill_ok (σ := σ) (ι := ι) (fun i => pl[i]?) parts uparts.toList zc uz.toArray cs (by simpa using hvz) h1 h2 hf
          refine sat_run h (u := .agg arr) ?_ ?_
          · have := VR.agg (σ := σ) (ι := ι) cs arr.toList hr.1 hr.2
            simpa using this
          · unfold tPlaces at hpl
            split at hpl
            · rename_i fs hu
              have hm := mapM_run fs.toList pl hpl w
              have e : (fs.mapM (fun f => do pure (f.offset, ← sizeOf f.type) : Field → Sem (Nat × Nat))).run P w = .ok pl.toArray w := by
                rw [Array.mapM_eq_mapM_toList]
                simp only [Sem.run_map, hm, Result.andThen_ok]
              have e2 : ∀ i : Nat, pl.toArray[i]? = pl[i]? := fun i => by simp
              have e3 : Instr.fill (fun i => pl.toArray[i]?) zv.cells uparts.toList = some arr := by
                rw [huz, show (fun i => pl.toArray[i]?) = fun i => pl[i]? from funext e2]; exact ha
              simp only [Instr.build, Sem.run_bind, hzr, Result.andThen_ok, run_underlying hu, e, e3, Sem.run_pure]
            · cases hpl
        · trivial
      · split
        · rename_i len e harr
          split
          · rename_i n hn
            split
            · rename_i cs hf
              obtain ⟨arr, ha, hr⟩ := fill_ok (σ := σ) (ι := ι) (fun i => some (i * n, n)) parts uparts.toList zc uz.toArray cs (by simpa using hvz) h1 h2 hf
              refine sat_run h (u := .agg arr) ?_ ?_
              · have := VR.agg (σ := σ) (ι := ι) cs arr.toList hr.1 hr.2
                simpa using this
              · rw [← huz] at ha
                simp only [Instr.build, Sem.run_bind, hzr, Result.andThen_ok, run_underlying (tArr_some harr), run_sizeOf' hn, ha, Sem.run_pure]
            · trivial
          · trivial
        · trivial
    · trivial
  · trivial

/-! ### A slice that is written out -/
theorem tvs_some : ∀ {cs : List AV} {ts : List TV}, tvs cs = some ts → cs = ts.map .tv := by
  intro cs
  induction cs with
  | nil => intro ts h; simp [tvs] at h; subst h; rfl
  | cons c cs ih =>
    intro ts h
    cases c <;> simp [tvs] at h
    obtain ⟨ts', h1, rfl⟩ := h
    simp [ih h1]
theorem chunk_len (n : Nat) : ∀ (k : Nat) (l : List TV), (chunk n k l).length = k
  | 0, _ => rfl
  | k + 1, l => by simp [chunk, chunk_len n k]
theorem chunk_get (n : Nat) : ∀ (k : Nat) (l : List TV) (i : Nat) (r : List TV), (chunk n k l)[i]? = some r → r = (l.drop (i * n)).take n
  | 0, _, i, r, h => by simp [chunk] at h
  | k + 1, l, 0, r, h => by simp [chunk] at h; simp [h]
  | k + 1, l, i + 1, r, h => by
    simp only [chunk, List.getElem?_cons_succ] at h
    rw [chunk_get n k _ i r h, List.drop_drop]
    congr 2
    rw [Nat.add_mul]; omega
/-- Cells in memory, for good, read as a slice of rows. -/
theorem TR.ofCells {ts : List TV} {n k b : Nat} {us : Nat → Value} {cap : Nat} (hl : ts.length = k * n) (hc : k ≤ cap) (hm : k ≤ 9223372036854775807)
    (hv : ∀ j c, ts[j]? = some c → TR σ c (us j) ∧ σ ⟨b, j, none⟩ (us j)) : TR σ (.sli n (chunk n k ts)) (.slice (some ⟨b, 0, none⟩) k cap) := by
  have hlen := chunk_len n k ts
  have : TR σ (.sli n (chunk n k ts)) (.slice (some ⟨b, 0, none⟩) (chunk n k ts).length cap) := by
    have at_ : ∀ i j r c, (chunk n k ts)[i]? = some r → r[j]? = some c → ts[i * n + j]? = some c := by
      intro i j r c h1 h2
      rw [chunk_get n k ts i r h1, List.getElem?_take] at h2
      split at h2
      · rw [List.getElem?_drop] at h2; exact h2
      · cases h2
    refine .sli n _ _ cap (fun i j => us (i * n + j)) (by omega) (by omega) (fun h => by cases h) ?_ (fun i j r c h1 h2 => (hv _ c (at_ i j r c h1 h2)).1) (fun a i j r c he h1 h2 => ?_)
    · intro r hr
      obtain ⟨i, hi⟩ := List.mem_iff_getElem?.1 hr
      have hlt := (List.getElem?_eq_some_iff.1 hi).1
      rw [chunk_get n k ts i r hi]
      rw [hlen] at hlt
      have : i * n + n ≤ ts.length := by
        rw [hl, ← Nat.succ_mul]; exact Nat.mul_le_mul_right _ hlt
      simp; omega
    · cases he
      rw [add_none]; simp only [Nat.zero_add]
      exact (hv _ c (at_ i j r c h1 h2)).2
  rw [hlen] at this; exact this
def evBuildSlice' (P : Program) (id : Id) (t : TypeId) (len : Nat) (parts : List (Nat × AV)) : Res := match tElem P t with
  | some e => match tSz P e, tZero P e with
    | some n, some z => match z.cells with
      | some zc => if len * n = 0 then (if len = 0 ∧ parts.length = 0 then .val (.sl id n 0 0) (.new (.row [] false)) else .fail) else if len * n ≤ 1000000 ∧ zc.length = n then
          match fillG (fun i => some (i * n, n)) ((List.replicate len zc).flatten) parts with
          | some cs => match tvs cs with
            | some ts => if ts.length = len * n then .val (.tv (.sli n (chunk n len ts))) .no else .fail
            | none => chk (cs.all AV.one = true ∧ cs.length = len * n) (.val (.sl id n 0 len) (.new (.row cs false)))
          | none => .fail
        else .fail
      | none => .fail
    | _, _ => .fail
  | none => .fail
theorem range_zero (uz : List Value) (len : Nat) (h : 0 < uz.length) : (Array.range (len * uz.length)).map (fun i => uz.toArray[i % uz.length]!) = ((List.replicate len uz).flatten).toArray := by
  apply Array.toList_inj.1
  simp only [Array.toList_map, Array.toList_range]
  apply List.ext_getElem?
  intro j
  simp only [List.getElem?_map]
  by_cases hj : j < len * uz.length
  · rw [List.getElem?_range hj]
    have hm : j % uz.length < uz.length := Nat.mod_lt _ h
    simp only [Option.map_some]
    have : ∀ (k m : Nat), m < k * uz.length → ((List.replicate k uz).flatten)[m]? = some (uz.getD (m % uz.length) undef) := by
      intro k
      induction k with
      | zero => intro m hm; simp at hm
      | succ k ih =>
        intro m hm
        rw [List.replicate_succ, List.flatten_cons, List.getElem?_append]
        split
        · rename_i hlt
          rw [Nat.mod_eq_of_lt hlt]; simp [hlt]
        · rename_i hge
          rw [ih _ (by rw [Nat.succ_mul] at hm; omega)]
          congr 2
          have : m = (m - uz.length) + uz.length := by omega
          conv => rhs; rw [this]
          simp
    rw [this len j hj]
    have hm' : j % uz.length < uz.toArray.size := by simpa using hm
    simp [getElem!_pos, hm, hm']
  · rw [List.getElem?_eq_none (by simp; omega), List.getElem?_eq_none (by simp [List.length_flatten, List.map_replicate, List.sum_replicate_nat]; omega)]
    rfl
theorem sat_buildSlice {t : TypeId} {len : Nat} {parts : List (Nat × AV)} {uparts : Array (Nat × Value)} (h : WR B w0 σ ι H w) (hid : ι id = none) (h1 : uparts.toList.map (·.1) = parts.map (·.1)) (h2 : VRs σ ι (parts.map (·.2)) (uparts.toList.map (·.2)))
    (hs : s = (do pure (.value (← Instr.buildSlice t len uparts)))) : Sat P s w B w0 σ ι H id (evBuildSlice' P id t len parts) := by
  subst hs
  unfold evBuildSlice'
  split
  · rename_i e he
    have hu := tElem_some he
    split
    · rename_i n z hn hz
      obtain ⟨zv, hzr, hzv⟩ := tZero_some hz
      split
      · rename_i zc hzc
        obtain ⟨uz, huz, hvz⟩ := (hzv σ ι).cells hzc
        split
        · rename_i h0
          split
          · rename_i hl0
            obtain ⟨rfl, hp⟩ := hl0
            have hp' : uparts = #[] := by
              have : uparts.toList.length = 0 := by
                have := congrArg List.length h1
                simp at this; simp [this, hp]
              apply Array.toList_inj.1
              simpa using this
            subst hp'
            refine ⟨.slice (some ⟨w.heap.size, 0, none⟩) 0 0, w.alloc (.cells #[] e), .inl ?_, σ, _, .sl0 _ _ _ _, (h.junk _).empty id hid false, fun _ _ h => h, wput_le hid, fun j hj => wput_ne j hj⟩
            have hr0 : ∀ f : Nat → Value, (Array.range 0).map f = #[] := fun f => by simp [Array.range]
            simp only [Instr.buildSlice, Sem.run_bind, run_underlying hu, Result.andThen_ok, run_sizeOf' hn, Nat.zero_mul, gt_iff_lt, Nat.not_lt_zero, if_false, Sem.run_pure, if_true, newRow, run_newObj, Instr.fill, Sem.run_ite, hr0]
            rfl
          · trivial
        · rename_i h0
          split
          · rename_i hcond
            obtain ⟨hle, hzl⟩ := hcond
            have hun : uz.length = n := by rw [hvz.1, hzl]
            have hn0 : 0 < n := by
              rcases Nat.eq_zero_or_pos n with h | h
              · subst h; simp at h0
              · exact h
            have hzero : VRs σ ι ((List.replicate len zc).flatten) ((List.replicate len uz).flatten) := by
              clear hle h0
              induction len with
              | zero => exact VRs.nil _ _
              | succ k ih => rw [List.replicate_succ, List.replicate_succ, List.flatten_cons, List.flatten_cons]; exact hvz.append ih
            split
            · rename_i cs hf
              obtain ⟨arr, ha, hr⟩ := fill_ok (σ := σ) (ι := ι) (fun i => some (i * n, n)) parts uparts.toList _ ((List.replicate len uz).flatten).toArray cs (by simpa using hzero) h1 h2 hf
              have hrun : (do pure (Next.value (← Instr.buildSlice t len uparts)) : Sem Next).run P w = .ok (.value (.slice (some ⟨w.heap.size, 0, none⟩) len len)) (w.alloc (.cells arr e)) := by
                have hbig : ¬ (16777216 < len * n) := by omega
                have hcells : (Array.range (len * n)).map (fun i => zv.cells[i % zv.cells.size]!) = ((List.replicate len uz).flatten).toArray := by
                  have := range_zero uz len (by omega)
                  rw [huz]
                  simp only [List.size_toArray]
                  rw [hun] at this ⊢
                  exact this
                simp only [Instr.buildSlice, Sem.run_bind, run_underlying hu, Result.andThen_ok, run_sizeOf' hn, Sem.run_ite, gt_iff_lt, Nat.reducePow, hbig, if_false, Sem.run_pure, h0, hzr, hcells, ha, newRow, run_newObj]
                rfl
              split
              · rename_i ts hts
                split
                · rename_i htl
                  have hcs := tvs_some hts
                  subst hcs
                  have hju := h.junk (.cells arr e)
                  -- the new block's cells are known for good
                  have hnew : WR B w0 (fun a v => σ a v ∨ (a.block = w.heap.size ∧ (w.alloc (.cells arr e)).cell? a = some v)) ι H (w.alloc (.cells arr e)) := by
                    refine ⟨hju.hB, hju.below, fun j o b m hj hi => ?_, hju.ghost, hju.dom, hju.inj, fun a v hs => ?_, fun a v hs j o b m hj hi hb => ?_, fun a v hs => hs.elim (h.newf a v) (fun hs => .inr (by rw [hs.1]; exact h.size))⟩
                    · obtain ⟨hb, obj, hw, hor⟩ := hju.obj j o b m hj hi
                      exact ⟨hb, obj, hw, hor.mono (fun _ _ h => .inl h) (fun _ _ h => h)⟩
                    · rcases hs with hs | ⟨_, hs⟩
                      · exact hju.sure a v hs
                      · exact hs
                    · rcases hs with hs | ⟨hs, _⟩
                      · exact hju.stab a v hs j o b m hj hi hb
                      · have := h.lt hj hi; omega
                  refine ⟨_, _, .inl hrun, _, ι, .tv ?_, hnew, fun _ _ h => .inl h, fun _ _ h => h, fun _ _ => rfl⟩
                  refine TR.ofCells (us := fun j => arr.getD j undef) htl (Nat.le_refl _) (by
                    have : len ≤ len * n := Nat.le_mul_of_pos_right _ hn0
                    omega) (fun j c hj => ?_)
                  have hj' : (ts.map AV.tv)[j]? = some (.tv c) := by simp [hj]
                  obtain ⟨u, hu1, hu2⟩ := hr.get hj'
                  have hu3 : arr[j]? = some u := by simpa using hu1
                  have hlt : j < arr.size := (Array.getElem?_eq_some_iff.1 hu3).1
                  have hu4 : arr.getD j undef = u := by simp [Array.getD, hlt]; exact (Array.getElem?_eq_some_iff.1 hu3).2
                  rw [hu4]
                  cases hu2 with
                  | tv hu2 => exact ⟨hu2.mono (fun _ _ h => .inl h), .inr ⟨rfl, by rw [World.cell?_alloc_new]; exact hu3⟩⟩
                · trivial
              · refine sat_chk fun ⟨hone, hlen⟩ => ?_
                have e1 : arr = arr.toList.toArray := by simp
                have hvr : VR σ (wput ι id (some (w.heap.size, cs.length))) (.sl id n 0 len) (.slice (some ⟨w.heap.size, 0, none⟩) len len) := by
                  have := VR.sl (σ := σ) (ι := wput ι id (some (w.heap.size, cs.length))) id n 0 len w.heap.size cs.length len wput_at (Nat.le_refl _) (by simp; omega) (by
                    have : len ≤ len * n := Nat.le_mul_of_pos_right _ hn0
                    omega)
                  simpa using this
                refine ⟨_, _, .inl hrun, σ, _, hvr, ?_, fun _ _ h => h, wput_le hid, fun j hj => wput_ne j hj⟩
                have := h.newRow hid hr e
                rw [← e1] at this
                exact this
            · trivial
          · trivial
      · trivial
    · trivial
  · trivial
end
end Go.Proofs.Ythmimpiegnnmdaa
