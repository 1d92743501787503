/- Maps keyed by texts, lengths, numbers' operators. -/
import Derived.Test.YthmimpiegnnmdaaAbs5
import Derived.Laws.Strings
import Derived.MapKept
namespace Go.Proofs.Ythmimpiegnnmdaa
open Go.RowKit
set_option linter.unusedSimpArgs false
set_option linter.unusedVariables false
section
variable {P : Program} {B : Base} {w0 w : World} {σ : Facts} {ι : Where} {H : Hp} {id : Id} {s : Sem Next}

/-- The entries of a machine's map are these. -/
def Ents (σ : Facts) (ι : Where) (es : List (ByteArray × AV)) (l : List MapEntry) : Prop :=
  l.length = es.length ∧ ∀ (j : Nat) (k : ByteArray) (v : AV), es[j]? = some (k, v) → ∃ e, l[j]? = some e ∧ e.key = .string k ∧ VR σ ι v e.val
theorem Ents.nil : Ents σ ι [] [] := ⟨rfl, fun j k v h => by simp at h⟩
theorem Ents.cons_inv {p : ByteArray × AV} {es : List (ByteArray × AV)} {l : List MapEntry} (h : Ents σ ι (p :: es) l) : ∃ e r, l = e :: r ∧ e.key = .string p.1 ∧ VR σ ι p.2 e.val ∧ Ents σ ι es r := by
  obtain ⟨hl, hv⟩ := h
  cases l with
  | nil => simp at hl
  | cons e r =>
    obtain ⟨e', h1, h2, h3⟩ := hv 0 p.1 p.2 rfl
    simp at h1; subst h1
    exact ⟨e, r, rfl, h2, h3, by simpa using hl, fun j k v hj => by
      obtain ⟨e'', h4, h5⟩ := hv (j + 1) k v (by simpa using hj)
      exact ⟨e'', by simpa using h4, h5⟩⟩
theorem Ents.cons {p : ByteArray × AV} {es : List (ByteArray × AV)} {e : MapEntry} {r : List MapEntry} (h1 : e.key = .string p.1) (h2 : VR σ ι p.2 e.val) (h : Ents σ ι es r) : Ents σ ι (p :: es) (e :: r) := by
  refine ⟨by simp [h.1], fun j k v hj => ?_⟩
  cases j with
  | zero => simp at hj; subst hj; exact ⟨e, rfl, h1, h2⟩
  | succ j => simp at hj; obtain ⟨e', h3, h4⟩ := h.2 j k v hj; exact ⟨e', by simpa using h3, h4⟩
theorem sat_run {v : AV} {u : Value} {e : Sem Value} (h : WR B w0 σ ι H w) (hv : VR σ ι v u) (hr : e.run P w = .ok u w) : Sat P (do pure (Next.value (← e)) : Sem Next) w B w0 σ ι H id (.val v .no) :=
  Sat.pure h (by simp [hr]) hv
theorem ba_beq (a b : ByteArray) : (a == b) = decide (a = b) := by
  by_cases h : a = b
  · rw [(Go.MapKept.bytes_beq a b).2 h]; simp [h]
  · cases hb : (a == b) with
    | false => simp [h]
    | true => exact absurd ((Go.MapKept.bytes_beq a b).1 hb) h
theorem find_ok (q : ByteArray) : ∀ (es : List (ByteArray × AV)) (l : List MapEntry) (i0 : Nat), Ents σ ι es l →
    (∃ j v e, sget es q = some v ∧ l[j]? = some e ∧ e.key = .string q ∧ Instr.findNow .string (.string q) l i0 = some (some (i0 + j, e.val)) ∧ VR σ ι v e.val ∧ ∀ x, sput es q x = es.set j (q, x)) ∨
    (sget es q = none ∧ Instr.findNow .string (.string q) l i0 = some none ∧ ∀ x, sput es q x = es ++ [(q, x)]) := by
  intro es
  induction es with
  | nil =>
    intro l i0 h
    have : l = [] := by simpa using h.1
    subst this
    exact .inr ⟨rfl, rfl, fun x => rfl⟩
  | cons p es ih =>
    intro l i0 h
    obtain ⟨e, r, rfl, hk, hv, hr⟩ := h.cons_inv
    obtain ⟨k, v⟩ := p
    simp only [] at hk hv
    by_cases hq : k = q
    · subst hq
      refine .inl ⟨0, v, e, by simp [sget], rfl, hk, ?_, hv, fun x => by simp [sput]⟩
      simp [Instr.findNow, hk, Instr.sameNow, ba_beq]
    · have hb : (q == k) = false := by rw [ba_beq]; simp; exact fun e => hq e.symm
      rcases ih r (i0 + 1) hr with ⟨j, v', e', h1, h2, h3, h4, h5, h6⟩ | ⟨h1, h2, h3⟩
      · refine .inl ⟨j + 1, v', e', by simp [sget, hq, h1], by simpa using h2, h3, ?_, h5, fun x => by simp [sput, hq, h6 x]⟩
        have : i0 + (j + 1) = i0 + 1 + j := by omega
        simp [Instr.findNow, hk, Instr.sameNow, hb, h4, this]
      · refine .inr ⟨by simp [sget, hq, h1], ?_, fun x => by simp [sput, hq, h3 x]⟩
        simp [Instr.findNow, hk, Instr.sameNow, hb, h2]
theorem run_checkKey {k : TypeId} (huk : P.underlying k = some .string) (em : Bool) (n : Nat) (q : ByteArray) (w : World) : (Instr.checkKey em (n + 1) k (.string q)).run P w = .ok () w := by
  simp [Instr.checkKey, run_underlying huk]
theorem sat_lookup {t : TypeId} {x i : AV} {ux ui : Value} {comma : Bool} (h : WR B w0 σ ι H w) (hx : VR σ ι x ux) (hi : VR σ ι i ui) (hs : s = (do pure (.value (← Instr.lookup t ux ui comma)))) :
    Sat P s w B w0 σ ι H id (evLookup P H t x i comma) := by
  subst hs
  unfold evLookup
  split
  · rename_i k e hm
    have hu := tMap_some hm
    split
    · rename_i hk
      have huk := tStr_true hk
      split
      · rename_i z q hz
        obtain ⟨zv, hzr, hzv⟩ := tZero_some hz
        cases hi with
        | tv hi =>
        cases hi
        split
        · rename_i mid
          split
          · rename_i es hh
            cases hx with
            | map _ b n hid =>
            obtain ⟨_, obj, hw, arr, clock, rfl, ha, hes⟩ := h.obj _ _ _ _ hh hid
            have hE : Ents σ ι es arr.toList := ⟨by simpa using ha, fun j k v hj => by
              obtain ⟨e', h1, h2⟩ := hes j k v hj
              exact ⟨e', by simpa using h1, h2⟩⟩
            have hgetR : (getObj b).run P w = .ok (.map arr clock) w := by simp [getObj, Sem.run, hw]
            have hck : ∀ em, (Instr.checkKey em 10000 k (.string q)).run P w = .ok () w := by
              intro em; exact run_checkKey huk em 9999 q w
            rcases find_ok (σ := σ) (ι := ι) q es arr.toList 0 hE with ⟨j, v, e', h1, h2, h3, h4, h5, _⟩ | ⟨h1, h2, _⟩
            · have hr : (do pure (Next.value (← Instr.lookup t (.map (some b)) (.string q) comma)) : Sem Next).run P w = .ok (.value (if comma then .tuple #[e'.val, .bool true] else e'.val)) w := by
                simp [Instr.lookup, run_underlying hu, hgetR, hck, Instr.findKey, run_underlying huk, h4]
              cases comma with
              | true => exact Sat.pure h hr (by rw [h1]; exact .tup [_, _] [_, _] rfl (VRs.cons h5 (VRs.cons (.tv (.bool _)) (VRs.nil _ _))).2)
              | false => exact Sat.pure h hr (by rw [h1]; exact h5)
            · have hr : (do pure (Next.value (← Instr.lookup t (.map (some b)) (.string q) comma)) : Sem Next).run P w = .ok (.value (if comma then .tuple #[zv, .bool false] else zv)) w := by
                simp [Instr.lookup, run_underlying hu, hgetR, hck, Instr.findKey, run_underlying huk, h2, hzr]
              cases comma with
              | true => exact Sat.pure h hr (by rw [h1]; exact .tup [_, _] [_, _] rfl (VRs.cons (hzv _ _) (VRs.cons (.tv (.bool _)) (VRs.nil _ _))).2)
              | false => exact Sat.pure h hr (by rw [h1]; exact hzv _ _)
          · trivial
        · trivial
      · trivial
    · trivial
  · trivial
theorem sat_mapUpdate {t : TypeId} {x i v : AV} {ux ui uv : Value} (h : WR B w0 σ ι H w) (hx : VR σ ι x ux) (hi : VR σ ι i ui) (hv : VR σ ι v uv) (hs : s = (do Instr.mapUpdate t ux ui uv; pure .skip)) :
    Sat P s w B w0 σ ι H id (evMapUpdate P H t x i v) := by
  subst hs
  unfold evMapUpdate
  split
  · rename_i k e hm
    have hu := tMap_some hm
    split
    · rename_i hk
      have huk := tStr_true hk
      split
      · rename_i mid q
        cases hi with
        | tv hi =>
        cases hi
        split
        · rename_i es hh
          refine sat_chk fun hone => ?_
          cases hx with
          | map _ b n hid =>
          obtain ⟨_, obj, hw, arr, clock, rfl, ha, hes⟩ := h.obj _ _ _ _ hh hid
          have hlt : b < w.heap.size := (Array.getElem?_eq_some_iff.1 hw).1
          have hE : Ents σ ι es arr.toList := ⟨by simpa using ha, fun j k v hj => by
            obtain ⟨e', h1, h2⟩ := hes j k v hj
            exact ⟨e', by simpa using h1, h2⟩⟩
          have hgetR : (getObj b).run P w = .ok (.map arr clock) w := by simp [getObj, Sem.run, hw]
          have hck : ∀ em, (Instr.checkKey em 10000 k (.string q)).run P w = .ok () w := by
            intro em; exact run_checkKey huk em 9999 q w
          have hsetR : ∀ o, (setObj b o).run P w = .ok () { w with heap := w.heap.setIfInBounds b o } := by
            intro o; simp [setObj, Sem.run, hw]
          -- whatever map is laid in the block's place
          have fin : ∀ (arr' : Array MapEntry) (clock' : Nat), Ents σ ι (sput es q v) arr'.toList →
              WR B w0 σ ι (hset H mid (.smap (sput es q v))) { w with heap := w.heap.setIfInBounds b (.map arr' clock') } := by
            intro arr' clock' hE'
            refine h.write hh hid _ (x := .map arr' clock') (by simp [hlt]) ⟨arr', clock', rfl, by simpa using hE'.1, fun j k v hj => by
              obtain ⟨e', h1, h2⟩ := hE'.2 j k v hj
              exact ⟨e', by simpa using h1, h2⟩⟩ (fun k hk => by simp [Array.getElem?_setIfInBounds_ne (Ne.symm hk)]) (by simp) rfl rfl rfl ?_
            intro a y hs hb
            obtain ⟨cs', he, _⟩ := h.stab a y hs mid _ b n hh hid hb
            cases he
          rcases find_ok (σ := σ) (ι := ι) q es arr.toList 0 hE with ⟨j, v', e', h1, h2, h3, h4, h5, h6⟩ | ⟨h1, h2, h3⟩
          · have hj : j < arr.size := by have := (List.getElem?_eq_some_iff.1 h2).1; simpa using this
            have hje : arr[j]? = some e' := by simpa using h2
            have hr : (do Instr.mapUpdate t (.map (some b)) (.string q) uv; pure .skip : Sem Next).run P w =
                .ok .skip { w with heap := w.heap.setIfInBounds b (.map (arr.modify j fun e => { e with key := .string q, val := uv }) clock) } := by
              simp [Instr.mapUpdate, run_underlying hu, hgetR, hck, Instr.findKey, run_underlying huk, h4, hje, h3, Instr.keyThatStays, Instr.sameBits, ba_beq, hsetR]
            refine ⟨undef, _, .inr ⟨hr, rfl⟩, σ, ι, .tup [] [] rfl (fun j c u h _ => by simp at h), fin _ _ ?_, fun _ _ h => h, fun _ _ h => h, fun _ _ => rfl⟩
            rw [h6 v]
            refine ⟨by simp; omega, fun j' k' x' hj' => ?_⟩
            simp only [Array.getElem?_toList, Array.getElem?_modify]
            rw [List.getElem?_set] at hj'
            by_cases e : j = j'
            · subst e
              rw [if_pos rfl] at hj'
              split at hj'
              · cases hj'; rw [if_pos rfl, hje]; exact ⟨_, rfl, rfl, hv⟩
              · cases hj'
            · rw [if_neg e] at hj' ⊢
              exact hes j' k' x' hj'
          · have hr : (do Instr.mapUpdate t (.map (some b)) (.string q) uv; pure .skip : Sem Next).run P w =
                .ok .skip { w with heap := w.heap.setIfInBounds b (.map (arr.push { key := .string q, val := uv, born := clock }) (clock + 1)) } := by
              simp [Instr.mapUpdate, run_underlying hu, hgetR, hck, Instr.findKey, run_underlying huk, h2, hsetR]
            refine ⟨undef, _, .inr ⟨hr, rfl⟩, σ, ι, .tup [] [] rfl (fun j c u h _ => by simp at h), fin _ _ ?_, fun _ _ h => h, fun _ _ h => h, fun _ _ => rfl⟩
            rw [h3 v]
            refine ⟨by simp; exact ha, fun j' k' x' hj' => ?_⟩
            simp only [Array.getElem?_toList, Array.getElem?_push]
            rw [List.getElem?_append] at hj'
            split at hj'
            · rename_i hlt'
              rw [if_neg (by omega)]
              exact hes j' k' x' hj'
            · rename_i hge
              have hj0 : j' - es.length = 0 := by
                have := (List.getElem?_eq_some_iff.1 hj').1
                simp at this; omega
              rw [hj0] at hj'
              simp at hj'
              obtain ⟨rfl, rfl⟩ := hj'
              rw [if_pos (by omega)]
              exact ⟨_, rfl, rfl, hv⟩
        · trivial
      · trivial
    · trivial
  · trivial
theorem sat_makeMap {t : TypeId} (h : WR B w0 σ ι H w) (hid : ι id = none) (hs : s = (do pure (.value (← Instr.makeMap t none)))) :
    Sat P s w B w0 σ ι H id (.val (.map id) (.new (.smap []))) := by
  subst hs
  refine ⟨.map (some w.heap.size), w.alloc (.map #[] 0), .inl rfl, σ, _, .map id _ 0 wput_at, h.new id hid _ 0 _ ?_, fun _ _ h => h, wput_le hid, fun j hj => wput_ne j hj⟩
  exact ⟨#[], 0, rfl, rfl, fun j k v hj => by simp at hj⟩
theorem sat_len {t ty : TypeId} {x : AV} {ux : Value} (h : WR B w0 σ ι H w) (hx : VR σ ι x ux) (hs : s = (do pure (.value (← Builtin.len_ #[t] ty #[ux])))) :
    Sat P s w B w0 σ ι H id (evLen P H t x) := by
  subst hs
  unfold evLen
  split
  · rename_i st
    split
    · rename_i ht
      cases hx with
      | tv hx => cases hx; exact sat_run h (.tv (.int _ _)) (by simp [Builtin.len_, run_underlying (tStr_true ht), goInt])
    · trivial
  · rename_i sz rows
    split
    · rename_i e he
      cases hx with
      | tv hx => cases hx; exact sat_run h (.tv (.int _ _)) (by simp [Builtin.len_, run_underlying (tElem_some he), goInt])
    · trivial
  · split
    · rename_i e he
      cases hx with
      | tv hx => cases hx; exact sat_run h (.tv (.int _ _)) (by simp [Builtin.len_, run_underlying (tElem_some he), goInt])
    · trivial
  · rename_i i sz off len
    split
    · rename_i e he
      cases hx with
      | sl => exact sat_run h (.tv (.int _ _)) (by simp [Builtin.len_, run_underlying (tElem_some he), goInt])
      | sl0 => exact sat_run h (.tv (.int _ _)) (by simp [Builtin.len_, run_underlying (tElem_some he), goInt])
    · trivial
  · rename_i mid
    split
    · rename_i km es hm hh
      cases hx with
      | map _ b n hid =>
      obtain ⟨_, obj, hw, arr, clock, rfl, ha, hes⟩ := h.obj _ _ _ _ hh hid
      have hgetR : (getObj b).run P w = .ok (.map arr clock) w := by simp [getObj, Sem.run, hw]
      obtain ⟨k, e⟩ := km
      exact Sat.pure h (u := .int .i64 (es.length : Int)) (by simp [Builtin.len_, run_underlying (tMap_some hm), hgetR, goInt, ha]) (.tv (.int _ _))
    · trivial
  · trivial

/-! ### Operators -/
theorem byteArray_list_eq (a b : ByteArray) : (a.toList == b.toList) = decide (a = b) := by
  rw [ByteArray.toList_eq, ByteArray.toList_eq]
  by_cases h : a = b
  · subst h; simp
  · simp only [h, decide_false]
    rw [beq_eq_false_iff_ne]
    intro e
    exact h (by cases a; cases b; simp at e; simp [e])
theorem sat_bin {op : BinOp} {t : TypeId} {x y : AV} {ux uy : Value} {ox oy : Operand} (h : WR B w0 σ ι H w) (hx : VR σ ι x ux) (hy : VR σ ι y uy)
    (hs : s = (do pure (.value (← (do eqGuard op t ox oy ux uy; binOp op t ux uy))))) :
    Sat P s w B w0 σ ι H id (evBin P op t x y) := by
  subst hs
  unfold evBin
  split
  · rename_i k a k' b
    cases hx with
    | tv hx =>
    cases hy with
    | tv hy =>
    cases hx; cases hy
    have hg0 : (eqGuard op t ox oy (.int k a) (.int k' b)).run P w = .ok () w := by
      unfold eqGuard; split <;> simp
    have hg' : ∀ (p : Sem Value), (do eqGuard op t ox oy (.int k a) (.int k' b); p).run P w = p.run P w := by
      intro p; simp [hg0]
    have hg : ∀ (p : Sem Value), (do pure (Next.value (← (do eqGuard op t ox oy (.int k a) (.int k' b); p))) : Sem Next).run P w = (do pure (Next.value (← p)) : Sem Next).run P w := by
      intro p; simp [hg0]
    split
    · intro h0
      refine Sat.pure h (u := .int k (k.wrap (a * 2 ^ (min b.toNat k.bits)))) ?_ (.tv (.int _ _))
      rw [hg]; simp [binOp, Op.shift, h0]
      intro h1; omega
    · intro h0
      refine Sat.pure h (u := .int k (a.fdiv (2 ^ (min b.toNat k.bits)))) ?_ (.tv (.int _ _))
      rw [hg]; simp [binOp, Op.shift]
      intro h1; omega
    · split
      · rename_i hn1 hn2 hk; subst hk
        unfold evInt
        split <;> first
          | trivial
          | exact sat_run h (.tv (.int _ _)) (by rw [hg']; simp [binOp, Op.intArith, Op.intBits])
          | exact sat_run h (.tv (.bool _)) (by rw [hg']; simp [binOp, Op.intCmp]; try (by_cases hab : a = b <;> simp [hab]))
          | (intro hb; exact sat_run h (.tv (.int _ _)) (by rw [hg']; simp [binOp, Op.intDiv, hb]))
      · trivial
  · rename_i a b
    cases hx with
    | tv hx =>
    cases hy with
    | tv hy =>
    cases hx; cases hy
    have hg : ∀ (p : Sem Value), (do pure (Next.value (← (do eqGuard op t ox oy (.string a) (.string b); p))) : Sem Next).run P w = (do pure (Next.value (← p)) : Sem Next).run P w := by
      intro p
      have : (eqGuard op t ox oy (.string a) (.string b)).run P w = .ok () w := by
        unfold eqGuard; split <;> simp
      simp [this]
    unfold evStr
    split
    · intro hsz
      refine Sat.pure h (u := .string (a ++ b)) ?_ (.tv (.str _ (by simp; omega)))
      rw [hg]
      have := run_string_add_sum (P := P) (w := w) a b hsz
      simp [binOp, this]
    · refine Sat.pure h (u := .bool (decide (a = b))) ?_ (.tv (.bool _))
      rw [hg]; simp [binOp, Op.stringOp, byteArray_list_eq]
    · refine Sat.pure h (u := .bool (!decide (a = b))) ?_ (.tv (.bool _))
      rw [hg]; simp [binOp, Op.stringOp, byteArray_list_eq]
    · trivial
  · rename_i a b
    cases hx with
    | tv hx =>
    cases hy with
    | tv hy =>
    cases hx; cases hy
    have hg : ∀ (p : Sem Value), (do pure (Next.value (← (do eqGuard op t ox oy (.bool a) (.bool b); p))) : Sem Next).run P w = (do pure (Next.value (← p)) : Sem Next).run P w := by
      intro p
      have : (eqGuard op t ox oy (.bool a) (.bool b)).run P w = .ok () w := by
        unfold eqGuard; split <;> simp
      simp [this]
    split
    · rename_i ht
      have hu := tBool_true ht
      split
      · refine Sat.pure h (u := .bool (a == b)) ?_ (.tv (.bool _))
        rw [hg]; simp [run_eql_bool (P := P) (w := w) t a b hu]
      · refine Sat.pure h (u := .bool (!(a == b))) ?_ (.tv (.bool _))
        rw [hg]; simp [run_neq_bool (P := P) (w := w) t a b hu]
      · trivial
    · trivial
  · trivial
theorem sat_un {op : UnOp} {x : AV} {ux : Value} (h : WR B w0 σ ι H w) (hx : VR σ ι x ux) (hs : s = (do pure (.value (← Op.unary op ux)))) :
    Sat P s w B w0 σ ι H id (evUn op x) := by
  subst hs
  unfold evUn
  split
  · cases hx with
    | tv hx => cases hx; exact sat_run h (.tv (.bool _)) (by simp [Op.unary])
  · cases hx with
    | tv hx => cases hx; exact sat_run h (.tv (.int _ _)) (by simp [Op.unary, Op.intArith])
  · trivial
end
end Go.Proofs.Ythmimpiegnnmdaa
