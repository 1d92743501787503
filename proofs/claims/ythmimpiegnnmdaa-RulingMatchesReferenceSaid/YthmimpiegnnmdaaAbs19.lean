/- Slices that may be nil. -/
import Derived.Test.YthmimpiegnnmdaaAbs18
namespace Go.Proofs.Ythmimpiegnnmdaa
open Go.RowKit
set_option linter.unusedSimpArgs false
set_option linter.unusedVariables false

def slT (sz : Nat) (nl : Bool) (rows : List (List TV)) : TV := bif nl && rows.isEmpty then .nils else .sli sz rows
theorem evLen_slT {P : Program} {H : Hp} {t e : TypeId} {sz : Nat} {nl : Bool} {rows : List (List TV)} (he : tElem P t = some e) : evLen P H t (.tv (slT sz nl rows)) = vint .i64 (rows.length : Int) := by
  unfold slT
  cases nl with
  | false => simp [evLen, he]
  | true => cases rows <;> simp [evLen, he]
theorem evIndexAddr_slT {P : Program} {t e : TypeId} {sz : Nat} {nl : Bool} {rows : List (List TV)} {k : IntKind} {n : Int} (he : tElem P t = some e) (hs : tSz P e = some sz) :
    evIndexAddr P t (.tv (slT sz nl rows)) (.tv (.int k n)) = .need (0 ≤ n ∧ n < (rows.length : Int)) (.val (.tv (.ptr (rowAt rows n))) .no) := by
  unfold slT
  cases nl with
  | false => simp [evIndexAddr, he, hs]
  | true => cases rows <;> simp [evIndexAddr, he, hs]
theorem evSrc_slT {P : Program} {H : Hp} {n : Nat} {e xt e' : TypeId} {nl : Bool} {rows : List (List TV)} (he : tElem P xt = some e') : evSrc P H n e xt (.tv (slT n nl rows)) = some (rows.flatten.map .tv, rows.length) := by
  unfold slT
  cases nl with
  | false => simp [evSrc, he]
  | true => cases rows <;> simp [evSrc, he]
theorem evSlice_slT {P : Program} {t e : TypeId} {sz : Nat} {nl : Bool} {rows : List (List TV)} {lo hi : Option AV} {l h : Int} (he : tElem P t = some e) (hs : tSz P e = some sz) (h1 : bnd 0 lo = some l) (h2 : bnd rows.length hi = some h) :
    evSlice P t (.tv (slT sz nl rows)) lo hi = .need (0 ≤ l ∧ l ≤ h ∧ h ≤ (rows.length : Int)) (.val (.tv (slT sz (nl && rows.isEmpty) ((rows.take h.toNat).drop l.toNat))) .no) := by
  unfold slT
  cases nl with
  | false => simp [evSlice, he, hs, h1, h2]
  | true =>
    cases rows with
    | nil => simp at h2; simp [evSlice, he, hs, h1, h2]
    | cons x r => simp [evSlice, he, hs, h1] ; simp at h2; simp [h2]
theorem tr_slT_len {σ : Facts} {ι : Where} {sz : Nat} {nl : Bool} {rows : List (List TV)} {u : Value} (h : VR σ ι (.tv (slT sz nl rows)) u) : rows.length ≤ 9223372036854775807 := by
  unfold slT at h
  cases nl with
  | false => exact tr_len h
  | true => cases rows with
    | nil => simp
    | cons x r => exact tr_len h
theorem evLen_str {P : Program} {H : Hp} {t : TypeId} {s : ByteArray} (h : tStr P t = true) : evLen P H t (.tv (.str s)) = vint .i64 (s.size : Int) := by simp [evLen, h]
theorem evLen_sl {P : Program} {H : Hp} {t e : TypeId} {i : Id} {sz off len : Nat} (h : tElem P t = some e) : evLen P H t (.sl i sz off len) = vint .i64 (len : Int) := by simp [evLen, h]
theorem evIndexAddr_sl {P : Program} {t e : TypeId} {i : Id} {sz off len : Nat} {k : IntKind} {n : Int} (he : tElem P t = some e) (hs : tSz P e = some sz) :
    evIndexAddr P t (.sl i sz off len) (.tv (.int k n)) = .need (0 ≤ n ∧ n < (len : Int)) (.val (.ptr i ((off + n.toNat) * sz)) .no) := by simp [evIndexAddr, he, hs]
theorem at_slT {E : En} {Q : Exit → St → Prop} {s : St} {c : Code} (t : Nat) {sz : Nat} {nl : Bool} {rows : List (List TV)} (ht : tget s.T t = .tv (slT sz nl rows)) (h : rows.length ≤ 9223372036854775807 → AT E c Q s) : AT E c Q s :=
  at_fact _ (fun _ _ _ _ _ _ _ _ ⟨_, _, hs⟩ => by have := hs.tr t; rw [ht] at this; exact tr_slT_len this) h
end Go.Proofs.Ythmimpiegnnmdaa
