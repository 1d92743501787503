/- Values told as trees (what is read and never written) and the relation of such values to the machine's. -/
import Derived.WalkKit
import Derived.CallsIn
import Derived.RangeFuncIn
import Derived.OrdersIn
import Derived.Below
import Derived.Carry
namespace Go.Proofs.Ythmimpiegnnmdaa
open Go.RowKit
set_option linter.unusedSimpArgs false
set_option linter.unusedVariables false

/-- A value that holds no block of one's own: numbers, texts, and slices, pointers into memory that is not written any more. -/
inductive TV where
  | bool (b : Bool)
  | int (k : IntKind) (n : Int)
  | str (s : ByteArray)
  | nils
  | sli (sz : Nat) (rows : List (List TV))
  | nilp
  | ptr (cells : List TV)
  | nilm
  | nilf
  | nili
  | fn (f : FuncId)
  deriving Inhabited

/-- What is known of cells for good. -/
abbrev Facts := Addr → Value → Prop

inductive TR (σ : Facts) : TV → Value → Prop
  | bool (b : Bool) : TR σ (.bool b) (.bool b)
  | int (k : IntKind) (n : Int) : TR σ (.int k n) (.int k n)
  | str (s : ByteArray) (h : s.size ≤ 9223372036854775807) : TR σ (.str s) (.string s)
  | nils : TR σ .nils (.slice none 0 0)
  | nilp : TR σ .nilp (.pointer none)
  | nilm : TR σ .nilm (.map none)
  | nilf : TR σ .nilf .nilFunc
  | nili : TR σ .nili .nilIface
  | fn (f : FuncId) : TR σ (.fn f) (.func (.func f) #[] #[])
  | sli (sz : Nat) (rows : List (List TV)) (A : Option Addr) (cap : Nat) (us : Nat → Nat → Value)
      (hc : rows.length ≤ cap) (hm : rows.length ≤ 9223372036854775807) (hA : A = none → rows = [])
      (hz : ∀ r ∈ rows, r.length = sz)
      (hv : ∀ i j r c, rows[i]? = some r → r[j]? = some c → TR σ c (us i j))
      (hs : ∀ a i j r c, A = some a → rows[i]? = some r → r[j]? = some c → σ (a.add (i * sz + j)) (us i j)) :
      TR σ (.sli sz rows) (.slice A rows.length cap)
  | ptr (cells : List TV) (a : Addr) (us : Nat → Value)
      (hv : ∀ j c, cells[j]? = some c → TR σ c (us j))
      (hs : ∀ j c, cells[j]? = some c → σ (a.add j) (us j)) :
      TR σ (.ptr cells) (.pointer (some a))

theorem TR.mono {σ σ' : Facts} (h : ∀ a v, σ a v → σ' a v) {t : TV} {u : Value} (ht : TR σ t u) : TR σ' t u := by
  induction ht with
  | bool b => exact .bool b
  | int k n => exact .int k n
  | str s hs => exact .str s hs
  | nils => exact .nils
  | nilp => exact .nilp
  | nilm => exact .nilm
  | nilf => exact .nilf
  | nili => exact .nili
  | fn f => exact .fn f
  | sli sz rows A cap us hc hm hA hz hv hs ih => exact .sli sz rows A cap us hc hm hA hz ih (fun a i j r c e h1 h2 => h _ _ (hs a i j r c e h1 h2))
  | ptr cells a us hv hs ih => exact .ptr cells a us ih (fun j c h1 => h _ _ (hs j c h1))

abbrev Id := List Nat

/-- Values of a body that is walked: trees, and what points to blocks of one's own (told by ids). -/
inductive AV where
  | tv (t : TV)
  | ptr (id : Id) (off : Nat)
  | sl (id : Id) (sz off len : Nat)
  | map (id : Id)
  | fn (f : Fn) (captured : List AV)
  | iface (t : TypeId) (v : AV)
  | agg (cells : List AV)
  | tup (vs : List AV)
  | yl (id : Id)
  | ds (l : List AV)
  | any
  deriving Inhabited

/-- Where the blocks of one's own lie: the block's number and how many cells it has ('some none': an empty row that lies nowhere). -/
abbrev Where := Id → Option (Option (Nat × Nat))

inductive VR (σ : Facts) (ι : Where) : AV → Value → Prop
  | tv {t : TV} {u : Value} (h : TR σ t u) : VR σ ι (.tv t) u
  | ptr (id : Id) (off b n : Nat) (h : ι id = some (some (b, n))) : VR σ ι (.ptr id off) (.pointer (some ⟨b, off, none⟩))
  | sl (id : Id) (sz off len b n cap : Nat) (h : ι id = some (some (b, n))) (hc : len ≤ cap) (hn : (off + cap) * sz ≤ n) (hm : len ≤ 9223372036854775807) :
      VR σ ι (.sl id sz off len) (.slice (some ⟨b, off * sz, none⟩) len cap)
  | sl0 (id : Id) (sz off : Nat) (A : Option Addr) : VR σ ι (.sl id sz off 0) (.slice A 0 0)
  | map (id : Id) (b n : Nat) (h : ι id = some (some (b, n))) : VR σ ι (.map id) (.map (some b))
  | fn (f : Fn) (captured : List AV) (us : List Value) (hl : us.length = captured.length)
      (hv : ∀ (j : Nat) (c : AV) (u : Value), captured[j]? = some c → us[j]? = some u → VR σ ι c u) : VR σ ι (.fn f captured) (.func f #[] us.toArray)
  | iface (t : TypeId) (v : AV) (u : Value) (h : VR σ ι v u) : VR σ ι (.iface t v) (.iface t u)
  | agg (cells : List AV) (us : List Value) (hl : us.length = cells.length)
      (hv : ∀ (j : Nat) (c : AV) (u : Value), cells[j]? = some c → us[j]? = some u → VR σ ι c u) : VR σ ι (.agg cells) (.agg us.toArray)
  | tup (vs : List AV) (us : List Value) (hl : us.length = vs.length)
      (hv : ∀ (j : Nat) (c : AV) (u : Value), vs[j]? = some c → us[j]? = some u → VR σ ι c u) : VR σ ι (.tup vs) (.tuple us.toArray)
  | yl (id : Id) (b n : Nat) (h : ι id = some (some (b, n))) : VR σ ι (.yl id) (.func (.yield b) #[] #[])
  | ds (l : List AV) (u : Value) : VR σ ι (.ds l) u
  | any (u : Value) : VR σ ι .any u

theorem VR.mono {σ σ' : Facts} {ι ι' : Where} (h : ∀ a v, σ a v → σ' a v) (hι : ∀ id x, ι id = some x → ι' id = some x) {v : AV} {u : Value} (hv : VR σ ι v u) : VR σ' ι' v u := by
  induction hv with
  | tv ht => exact .tv (ht.mono h)
  | ptr id off b n hi => exact .ptr id off b n (hι _ _ hi)
  | sl id sz off len b n cap hi hc hn hm => exact .sl id sz off len b n cap (hι _ _ hi) hc hn hm
  | sl0 id sz off A => exact .sl0 id sz off A
  | map id b n hi => exact .map id b n (hι _ _ hi)
  | fn f cs us hl _ ih => exact .fn f cs us hl ih
  | iface t v u _ ih => exact .iface t v u ih
  | agg cs us hl _ ih => exact .agg cs us hl ih
  | tup cs us hl _ ih => exact .tup cs us hl ih
  | yl id b n hi => exact .yl id b n (hι _ _ hi)
  | ds l u => exact .ds l u
  | any u => exact .any u

/-- The values of a list. -/
def VRs (σ : Facts) (ι : Where) (vs : List AV) (us : List Value) : Prop := us.length = vs.length ∧ ∀ (j : Nat) (c : AV) (u : Value), vs[j]? = some c → us[j]? = some u → VR σ ι c u
theorem VRs.mono {σ σ' : Facts} {ι ι' : Where} (h : ∀ a v, σ a v → σ' a v) (hι : ∀ id x, ι id = some x → ι' id = some x) {vs : List AV} {us : List Value} (hv : VRs σ ι vs us) : VRs σ' ι' vs us :=
  ⟨hv.1, fun j c u h1 h2 => (hv.2 j c u h1 h2).mono h hι⟩
theorem VRs.nil (σ : Facts) (ι : Where) : VRs σ ι [] [] := ⟨rfl, fun j c u h _ => by simp at h⟩
theorem VRs.cons {σ : Facts} {ι : Where} {v : AV} {u : Value} {vs : List AV} {us : List Value} (h : VR σ ι v u) (hs : VRs σ ι vs us) : VRs σ ι (v :: vs) (u :: us) := by
  refine ⟨by simp [hs.1], fun j c x h1 h2 => ?_⟩
  cases j with
  | zero => simp at h1 h2; subst h1 h2; exact h
  | succ j => simp at h1 h2; exact hs.2 j c x h1 h2
theorem VRs.cons_inv {σ : Facts} {ι : Where} {v : AV} {vs : List AV} {us : List Value} (h : VRs σ ι (v :: vs) us) : ∃ u us', us = u :: us' ∧ VR σ ι v u ∧ VRs σ ι vs us' := by
  obtain ⟨hl, hv⟩ := h
  cases us with
  | nil => simp at hl
  | cons u us => exact ⟨u, us, rfl, hv 0 v u rfl rfl, by simpa using hl, fun j c x h1 h2 => hv (j + 1) c x (by simpa using h1) (by simpa using h2)⟩
theorem VRs.nil_inv {σ : Facts} {ι : Where} {us : List Value} (h : VRs σ ι [] us) : us = [] := by
  have := h.1; simpa using this
theorem VRs.append {σ : Facts} {ι : Where} {vs vs' : List AV} {us us' : List Value} (h : VRs σ ι vs us) (h' : VRs σ ι vs' us') : VRs σ ι (vs ++ vs') (us ++ us') := by
  induction vs generalizing us with
  | nil => have := h.nil_inv; subst this; simpa using h'
  | cons v vs ih =>
    obtain ⟨u, us1, rfl, h1, h2⟩ := h.cons_inv
    exact VRs.cons h1 (ih h2)
theorem VRs.drop {σ : Facts} {ι : Where} {vs : List AV} {us : List Value} (h : VRs σ ι vs us) (n : Nat) : VRs σ ι (vs.drop n) (us.drop n) :=
  ⟨by simp [h.1], fun j c u h1 h2 => by rw [List.getElem?_drop] at h1 h2; exact h.2 _ c u h1 h2⟩
theorem VRs.take {σ : Facts} {ι : Where} {vs : List AV} {us : List Value} (h : VRs σ ι vs us) (n : Nat) : VRs σ ι (vs.take n) (us.take n) := by
  refine ⟨by simp [h.1], fun j c u h1 h2 => ?_⟩
  rw [List.getElem?_take] at h1 h2
  split at h1
  · rename_i hj; rw [if_pos hj] at h2; exact h.2 _ c u h1 h2
  · cases h1
theorem VRs.get {σ : Facts} {ι : Where} {vs : List AV} {us : List Value} (h : VRs σ ι vs us) {j : Nat} {c : AV} (hc : vs[j]? = some c) : ∃ u, us[j]? = some u ∧ VR σ ι c u := by
  have hj : j < us.length := by
    have := (List.getElem?_eq_some_iff.1 hc).1; have := h.1; omega
  exact ⟨us[j], by simp [hj], h.2 j c _ hc (by simp [hj])⟩
theorem VRs.set {σ : Facts} {ι : Where} {vs : List AV} {us : List Value} (h : VRs σ ι vs us) {v : AV} {u : Value} (hv : VR σ ι v u) (n : Nat) : VRs σ ι (vs.set n v) (us.set n u) := by
  refine ⟨by simp [h.1], fun j c x h1 h2 => ?_⟩
  rw [List.getElem?_set] at h1 h2
  by_cases e : n = j
  · subst e
    simp only [if_true] at h1 h2
    split at h1
    · rename_i h3; rw [if_pos (by rw [h.1]; exact h3)] at h2; cases h1; cases h2; exact hv
    · cases h1
  · rw [if_neg e] at h1 h2; exact h.2 j c x h1 h2

/-- A value that names no id: it means the same wherever the ids lie. -/
def AV.cl0 : AV → Bool
  | .tv _ => true
  | _ => false
def AV.cl1 : AV → Bool
  | .agg cs => cs.all AV.cl0
  | v => v.cl0
def AV.cl : AV → Bool
  | .tup vs => vs.all AV.cl1
  | .iface _ v => v.cl1
  | .fn _ cs => cs.all AV.cl1
  | v => v.cl1
theorem VR.cl0 {σ : Facts} {ι ι' : Where} {v : AV} {u : Value} (h : VR σ ι v u) (hc : v.cl0 = true) : VR σ ι' v u := by
  cases h <;> simp [AV.cl0] at hc
  case tv h => exact .tv h
theorem VR.cl1 {σ : Facts} {ι ι' : Where} {v : AV} {u : Value} (h : VR σ ι v u) (hc : v.cl1 = true) : VR σ ι' v u := by
  cases h <;> simp [AV.cl1, AV.cl0] at hc
  case tv h => exact .tv h
  case agg cs us hl hv => exact .agg cs us hl (fun j c u h1 h2 => (hv j c u h1 h2).cl0 (hc c (List.mem_of_getElem? h1)))
theorem VR.cl {σ : Facts} {ι ι' : Where} {v : AV} {u : Value} (h : VR σ ι v u) (hc : v.cl = true) : VR σ ι' v u := by
  cases h <;> simp [AV.cl, AV.cl1, AV.cl0] at hc
  case tv h => exact .tv h
  case agg cs us hl hv => exact .agg cs us hl (fun j c u h1 h2 => (hv j c u h1 h2).cl0 (hc c (List.mem_of_getElem? h1)))
  case tup cs us hl hv => exact .tup cs us hl (fun j c u h1 h2 => (hv j c u h1 h2).cl1 (hc c (List.mem_of_getElem? h1)))
  case fn f cs us hl hv => exact .fn f cs us hl (fun j c u h1 h2 => (hv j c u h1 h2).cl1 (hc c (List.mem_of_getElem? h1)))
  case iface t v u h => exact .iface t v u (h.cl1 hc)
end Go.Proofs.Ythmimpiegnnmdaa
