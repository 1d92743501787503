/- Stores, new variables, fields, elements, maps, lengths. -/
import Derived.Test.YthmimpiegnnmdaaAbs4
import Derived.Laws.CopyRow
import Derived.Laws.Tables
namespace Go.Proofs.Ythmimpiegnnmdaa
open Go.RowKit
set_option linter.unusedSimpArgs false
set_option linter.unusedVariables false
section
variable {P : Program} {B : Base} {w0 w : World} {σ : Facts} {ι : Where} {H : Hp} {id : Id} {s : Sem Next}

theorem splice_get {α : Type} (cs news : List α) (off : Nat) (h : off + news.length ≤ cs.length) (j : Nat) :
    (cs.take off ++ news ++ cs.drop (off + news.length))[j]? = if j < off then cs[j]? else if j < off + news.length then news[j - off]? else cs[j]? := by
  by_cases h1 : j < off
  · rw [if_pos h1, List.append_assoc, List.getElem?_append_left (by simp; omega), List.getElem?_take, if_pos h1]
  · rw [if_neg h1, List.append_assoc, List.getElem?_append_right (by simp; omega)]
    have e : j - (cs.take off).length = j - off := by simp; omega
    rw [e]
    by_cases h2 : j < off + news.length
    · rw [if_pos h2, List.getElem?_append_left (by omega)]
    · rw [if_neg h2, List.getElem?_append_right (by omega), List.getElem?_drop]
      congr 1; omega
/-- Cells written into a row of one's own. -/
theorem WR.storeRow (h : WR B w0 σ ι H w) {i : Id} {cells : List AV} {b n off : Nat} (hh : hget H i = some (.row cells false)) (hi : ι i = some (some (b, n))) {cs : List AV} {us : List Value} (hv : VRs σ ι cs us)
    (hone : ∀ u ∈ us, u.oneCell' = true) (hoff : off + cs.length ≤ cells.length) :
    ∃ w', (storeCells ⟨b, off, none⟩ us).run P w = .ok () w' ∧ WR B w0 σ ι (hset H i (.row (splice cells off cs) false)) w' := by
  obtain ⟨_, obj, hw, arr, e, rfl, ha, hle, hc⟩ := h.obj _ _ _ _ hh hi
  have hl : us.length = cs.length := hv.1
  have hst := run_storeCells_at P b off e us 0 arr w hw (by omega) hone
  simp only [Nat.add_zero] at hst
  refine ⟨_, hst, h.write hh hi _ (setRow_heap w b arr _ e _ hw) ?_ (fun k hk => setRow_other w b k _ hk) (by simp) rfl rfl rfl ?_⟩
  · refine ⟨_, e, rfl, ?_, ?_, ?_⟩
    · simp; omega
    · simp [splice]; omega
    · intro j c hj
      simp only [splice] at hj
      rw [splice_get cells cs off hoff] at hj
      simp only [List.getElem?_toArray]
      rw [splice_get arr.toList us off (by simp; omega), hl]
      by_cases h1 : j < off
      · rw [if_pos h1] at hj ⊢
        obtain ⟨u, hu, hvv⟩ := hc j c hj
        exact ⟨u, by simpa using hu, hvv⟩
      · rw [if_neg h1] at hj ⊢
        by_cases h2 : j < off + cs.length
        · rw [if_pos h2] at hj ⊢
          exact hv.get hj
        · rw [if_neg h2] at hj ⊢
          obtain ⟨u, hu, hvv⟩ := hc j c hj
          exact ⟨u, by simpa using hu, hvv⟩
  · intro a v hs hb
    obtain ⟨cs', he, _⟩ := h.stab a v hs i _ b n hh hi hb
    cases he
theorem sat_store {t : TypeId} {x v : AV} {ux uv : Value} (h : WR B w0 σ ι H w) (hx : VR σ ι x ux) (hv : VR σ ι v uv) (hs : s = (do Instr.storeAt t ux uv; pure .skip)) :
    Sat P s w B w0 σ ι H id (evStore P H t x v) := by
  subst hs
  unfold evStore
  split
  · rename_i n i off cs hn hc
    split
    · rename_i cells hh
      refine sat_chk fun ⟨hl, hone, hoff⟩ => ?_
      cases hx with
      | ptr _ _ b m hi =>
      obtain ⟨us, hu, hvs⟩ := hv.cells hc
      obtain ⟨w', hst, hw'⟩ := h.storeRow (P := P) (off := off) hh hi hvs (hvs.oneCells hone) (by omega)
      refine ⟨undef, w', .inr ⟨?_, rfl⟩, σ, ι, ?_, hw', fun _ _ h => h, fun _ _ h => h, fun _ _ => rfl⟩
      · have hul : us.length = n := by rw [hvs.1, hl]
        simp [Instr.storeAt, Instr.sureAddr, storeVar, hul, run_sizeOf' hn, hu, hst]
      · exact .tup [] [] rfl (fun j c u h _ => by simp at h)
    · trivial
  · trivial

/-- A new variable that holds the cells of a value. -/
theorem WR.newRow (h : WR B w0 σ ι H w) (hid : ι id = none) {cs : List AV} {us : List Value} (hv : VRs σ ι cs us) (e : TypeId) :
    WR B w0 σ (wput ι id (some (w.heap.size, cs.length))) ((id, .row cs false) :: H) (w.alloc (.cells us.toArray e)) :=
  h.new id hid _ _ _ ⟨us.toArray, e, rfl, by simp [hv.1], Nat.le_refl _, fun j c hj => by
    obtain ⟨u, hu, hvv⟩ := hv.get hj
    exact ⟨u, by simpa using hu, hvv.mono (fun _ _ h => h) (wput_le hid)⟩⟩
theorem wput_at {ι : Where} {id : Id} {x : Option (Nat × Nat)} : wput ι id x id = some x := by unfold wput; rw [if_pos rfl]
theorem wput_ne {ι : Where} {id : Id} {x : Option (Nat × Nat)} (j : Id) (h : j ≠ id) : wput ι id x j = ι j := by unfold wput; rw [if_neg h]
theorem sat_new {t : TypeId} {v : AV} {uv : Value} (h : WR B w0 σ ι H w) (hid : ι id = none) (hv : VR σ ι v uv)
    (hs : s.run P w = .ok (.value (.pointer (some ⟨w.heap.size, 0, none⟩))) (w.alloc (.cells uv.cells t))) :
    Sat P s w B w0 σ ι H id (evNew id v) := by
  unfold evNew
  split
  · rename_i cs hc
    refine sat_chk fun hone => ?_
    obtain ⟨us, hu, hvs⟩ := hv.cells hc
    rw [hu] at hs
    exact ⟨_, _, .inl hs, σ, _, .ptr id 0 _ _ wput_at, h.newRow hid hvs t, fun _ _ h => h, wput_le hid, fun j hj => wput_ne j hj⟩
  · trivial

/-! ### Fields and elements -/
theorem TR.drop {cells : List TV} {a : Addr} {off : Nat} (h : TR σ (.ptr cells) (.pointer (some a))) : TR σ (.ptr (cells.drop off)) (.pointer (some (a.add off))) := by
  cases h with
  | ptr _ _ us hv hs =>
  refine .ptr _ _ (fun j => us (off + j)) (fun j c hj => ?_) (fun j c hj => ?_)
  · rw [List.getElem?_drop] at hj; exact hv _ c hj
  · rw [List.getElem?_drop] at hj
    have := hs _ c hj
    have e : (a.add off).add j = a.add (off + j) := by
      unfold Addr.add
      by_cases h0 : off = 0
      · subst h0; simp
      · by_cases hj0 : j = 0
        · subst hj0; simp
        · have : off + j ≠ 0 := by omega
          simp [h0, hj0, Nat.add_assoc]
    rw [e]; exact this
theorem add_none (b o n : Nat) : (⟨b, o, none⟩ : Addr).add n = ⟨b, o + n, none⟩ := by
  unfold Addr.add; split
  · rename_i h; subst h; rfl
  · rfl
theorem sat_field {t : TypeId} {f : Nat} {x : AV} {ux : Value} (h : WR B w0 σ ι H w) (hx : VR σ ι x ux) (hs : s = (do pure (.value (← Instr.fieldAt t ux f)))) :
    Sat P s w B w0 σ ι H id (evField P t x f) := by
  subst hs
  unfold evField
  split
  · rename_i off ft hf
    split
    · rename_i n hn
      obtain ⟨fs, fd, hu, hfs, rfl, rfl⟩ := tFld_some hf
      have hplace : ∀ a : Addr, (do pure (Next.value (← Instr.fieldAt t (.pointer (some a)) f)) : Sem Next).run P w = .ok (.value (.pointer (some (a.add fd.offset)))) w := by
        intro a
        simp [Instr.fieldAt, run_underlying hu, hfs, Instr.sureAddr, fieldPlace, run_sizeOf' hn]
      split
      · rename_i i o
        cases hx with
        | ptr _ _ b m hi =>
        have := hplace ⟨b, o, none⟩
        rw [add_none] at this
        exact Sat.pure h this (.ptr _ _ _ _ hi)
      · rename_i cells
        cases hx with
        | tv hx =>
        have hx' := hx
        cases hx' with
        | ptr _ a us hv hs' => exact Sat.pure h (hplace a) (.tv hx.drop)
      · trivial
    · trivial
  · trivial
theorem getElem?_drop_take {α : Type} (l : List α) (off n : Nat) : ((l.drop off).take n) = (l.take (off + n)).drop off := by
  rw [List.drop_take]; congr 1; omega
theorem sat_fieldV {t : TypeId} {f : Nat} {x : AV} {ux : Value} (h : WR B w0 σ ι H w) (hx : VR σ ι x ux) (hs : s = (do pure (.value (← Instr.field t ux f)))) :
    Sat P s w B w0 σ ι H id (evFieldV P t x f) := by
  subst hs
  unfold evFieldV
  split
  · rename_i off ft hf
    obtain ⟨fs, fd, hu, hfs, rfl, rfl⟩ := tFld_some hf
    split
    · rename_i n g cells hn hg
      refine sat_chk fun ⟨hl, hgn⟩ => ?_
      cases hx with
      | agg _ us hl' hv =>
      have hvs : VRs σ ι ((cells.drop fd.offset).take n) ((us.drop fd.offset).take n) := (VRs.drop ⟨hl', hv⟩ _).take _
      cases g with
      | true =>
        refine Sat.pure h (u := .agg ((us.drop fd.offset).take n).toArray) ?_ (.agg _ _ hvs.1 hvs.2)
        have e : us.toArray.extract fd.offset (fd.offset + n) = ((us.drop fd.offset).take n).toArray := by
          apply Array.toList_inj.1
          simp
        simp [Instr.field, run_underlying hu, hfs, asAgg, part, tAgg_run hg, run_sizeOf' hn, e]
      | false =>
        have h1 : n = 1 := by simpa using hgn
        subst h1
        cases hcs : (cells.drop fd.offset).take 1 with
        | nil => rw [hcs] at hl; simp at hl
        | cons c r =>
          rw [hcs] at hvs hl
          have hr : r = [] := by simpa using hl
          subst hr
          obtain ⟨u, us', he, h1, h2⟩ := hvs.cons_inv
          have hu0 : us[fd.offset]? = some u := by
            have : ((us.drop fd.offset).take 1)[0]? = some u := by rw [he]; rfl
            rw [List.getElem?_take] at this
            simpa using this
          refine Sat.pure h (u := u) ?_ h1
          simp [Instr.field, run_underlying hu, hfs, asAgg, part, tAgg_run hg, hu0]
    · trivial
  · trivial
theorem sat_indexAddr {t : TypeId} {x i : AV} {ux ui : Value} (h : WR B w0 σ ι H w) (hx : VR σ ι x ux) (hi : VR σ ι i ui) (hs : s = (do pure (.value (← Instr.indexAt t ux ui)))) :
    Sat P s w B w0 σ ι H id (evIndexAddr P t x i) := by
  subst hs
  unfold evIndexAddr
  split
  · rename_i k n
    cases hi with
    | tv hi =>
    cases hi
    split
    · rename_i e he
      have hu := tElem_some he
      split
      · rename_i sz hsz
        have hrun : ∀ (a : Addr) (len cap : Nat), 0 ≤ n → n < (len : Int) →
            (do pure (Next.value (← Instr.indexAt t (.slice (some a) len cap) (.int k n))) : Sem Next).run P w = .ok (.value (.pointer (some (a.add (n.toNat * sz))))) w := by
          intro a len cap h0 h1
          simp [Instr.indexAt, asIntOf, run_underlying hu, h0, h1, run_sizeOf' hsz]
        split
        · rename_i sz' rows
          split
          · rename_i e1; subst e1
            intro ⟨h0, h1⟩
            cases hx with
            | tv hx =>
            cases hx with
            | sli _ _ A cap us hc hm hA hz hv hs' =>
            have hlt : n.toNat < rows.length := by omega
            cases A with
            | none => have := hA rfl; subst this; simp at hlt
            | some a =>
              refine Sat.pure h (hrun a _ _ h0 h1) (.tv (.ptr _ _ (us n.toNat) (fun j c hj => ?_) (fun j c hj => ?_)))
              · unfold rowAt at hj
                rw [List.getD_eq_getElem?_getD, List.getElem?_eq_getElem hlt] at hj
                exact hv n.toNat j _ c (List.getElem?_eq_getElem hlt) hj
              · unfold rowAt at hj
                rw [List.getD_eq_getElem?_getD, List.getElem?_eq_getElem hlt] at hj
                have := hs' a n.toNat j _ c rfl (List.getElem?_eq_getElem hlt) hj
                have e2 : (a.add (n.toNat * sz)).add j = a.add (n.toNat * sz + j) := by
                  unfold Addr.add
                  by_cases h0 : n.toNat * sz = 0
                  · simp [h0]
                  · by_cases hj0 : j = 0
                    · subst hj0; simp
                    · have : n.toNat * sz + j ≠ 0 := by omega
                      simp [h0, hj0, Nat.add_assoc]
                rw [e2]; exact this
          · trivial
        · intro ⟨h0, h1⟩
          simp at h1; omega
        · rename_i id' sz' off len
          split
          · rename_i e1; subst e1
            intro ⟨h0, h1⟩
            cases hx with
            | sl _ _ _ _ b m cap hid hc hn hm =>
              have := hrun ⟨b, off * sz, none⟩ len cap h0 h1
              rw [add_none, ← Nat.add_mul] at this
              exact Sat.pure h this (.ptr _ _ _ _ hid)
            | sl0 => exfalso; have : (0 : Int) ≤ n := h0; have : n < ((0 : Nat) : Int) := h1; omega
          · trivial
        · trivial
      · trivial
    · rename_i he
      split
      · rename_i m e harr
        have hu := tArr_some harr
        split
        · rename_i sz id' o hsz
          intro ⟨h0, h1⟩
          cases hx with
          | ptr _ _ b nn hid =>
          refine Sat.pure h (u := .pointer (some ⟨b, o + n.toNat * sz, none⟩)) ?_ (.ptr _ _ _ _ hid)
          have e3 := add_none b o (n.toNat * sz)
          simp [Instr.indexAt, asIntOf, run_underlying hu, Instr.sureAddr, h0, h1, run_sizeOf' hsz, e3]
        · trivial
      · trivial
  · trivial
theorem sat_index {t : TypeId} {x i : AV} {ux ui : Value} (h : WR B w0 σ ι H w) (hx : VR σ ι x ux) (hi : VR σ ι i ui) (hs : s = (do pure (.value (← Instr.index t ux ui)))) :
    Sat P s w B w0 σ ι H id (evIndex P t x i) := by
  subst hs
  unfold evIndex
  split
  · rename_i st k n
    split
    · rename_i ht
      intro ⟨h0, h1⟩
      cases hi with
      | tv hi =>
      cases hi
      cases hx with
      | tv hx =>
      cases hx
      have hlt : n.toNat < st.size := by omega
      refine Sat.pure h (u := .int .u8 (sbyte st n)) ?_ (.tv (.int _ _))
      have e1 : st[n.toNat]? = some (st[n.toNat]'hlt) := by simp [hlt]
      have e2 : sbyte st n = (((st[n.toNat]'hlt).toNat : Nat) : Int) := by
        unfold sbyte
        have : n.toNat < st.data.toList.length := by simpa using hlt
        rw [List.getD_eq_getElem?_getD, List.getElem?_eq_getElem this]
        rfl
      simp [Instr.index, asIntOf, run_underlying (tStr_true ht), h0, e1, e2]
    · trivial
  · trivial
end
end Go.Proofs.Ythmimpiegnnmdaa
