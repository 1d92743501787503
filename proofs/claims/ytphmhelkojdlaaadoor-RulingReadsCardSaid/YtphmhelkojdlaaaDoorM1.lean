/- Part M1 of the proof. -/
import Derived.WalkKit
import Derived.CallsIn
import Derived.RangeFuncIn
import Derived.OrdersIn
import Derived.Below
import Derived.Carry
import Derived.Laws.CopyRow
import Derived.Laws.Tables
import Derived.Laws.Strings
import Derived.MapKept
import Derived.Laws.AppendOwn
import Derived.Laws.IdiomStrings
import Derived.WideLaws
import Derived.Laws.Build
import Derived.RangeFuncRecord
namespace Go.Proofs.YtphmhelkojdlaaaDoor
open Go.RowKit
set_option linter.unusedSimpArgs false
set_option linter.unusedVariables false
/-- A value that holds no block of one's own: numbers, texts, and slices, pointers into memory that is not written any more. -/
inductive TV where
 | bool (b : Bool)
 | int (k : IntKind) (n : Int)
 | str (s : ByteArray)
 | nils
 | sli (sz : Nat) (rows : List (List TV))
 | nilp
 | ptr (cells : List TV)
 | nilm
 | nilf
 | nili
 | fn (f : FuncId)
 | slin (b : Bool) (sz : Nat) (rows : List (List TV))
 deriving Inhabited

/-- What is known of cells for good. -/
abbrev Facts := Addr → Value → Prop

inductive TR (σ : Facts) : TV → Value → Prop
 | bool (b : Bool) : TR σ (.bool b) (.bool b)
 | int (k : IntKind) (n : Int) : TR σ (.int k n) (.int k n)
 | str (s : ByteArray) (h : s.size ≤ 9223372036854775807) : TR σ (.str s) (.string s)
 | nils : TR σ .nils (.slice none 0 0)
 | nilp : TR σ .nilp (.pointer none)
 | nilm : TR σ .nilm (.map none)
 | nilf : TR σ .nilf .nilFunc
 | nili : TR σ .nili .nilIface
 | fn (f : FuncId) : TR σ (.fn f) (.func (.func f) #[] #[])
 | sli (sz : Nat) (rows : List (List TV)) (A : Option Addr) (cap : Nat) (us : Nat → Nat → Value)
   (hc : rows.length ≤ cap) (hm : rows.length ≤ 9223372036854775807) (hA : A = none → rows = [])
   (hz : ∀ r ∈ rows, r.length = sz)
   (hv : ∀ i j r c, rows[i]? = some r → r[j]? = some c → TR σ c (us i j))
   (hs : ∀ a i j r c, A = some a → rows[i]? = some r → r[j]? = some c → σ (a.add (i * sz + j)) (us i j)) :
   TR σ (.sli sz rows) (.slice A rows.length cap)
 | ptr (cells : List TV) (a : Addr) (us : Nat → Value)
   (hv : ∀ j c, cells[j]? = some c → TR σ c (us j))
   (hs : ∀ j c, cells[j]? = some c → σ (a.add j) (us j)) :
   TR σ (.ptr cells) (.pointer (some a))
 | slin (b : Bool) (sz : Nat) (rows : List (List TV)) (A : Option Addr) (len cap : Nat) (h : TR σ (.sli sz rows) (.slice A len cap)) (hb : A.isNone = b) : TR σ (.slin b sz rows) (.slice A len cap)

theorem TR.mono {σ σ' : Facts} (h : ∀ a v, σ a v → σ' a v) {t : TV} {u : Value} (ht : TR σ t u) : TR σ' t u := by
 induction ht with
 | bool b => exact .bool b
 | int k n => exact .int k n
 | str s hs => exact .str s hs
 | nils => exact .nils
 | nilp => exact .nilp
 | nilm => exact .nilm
 | nilf => exact .nilf
 | nili => exact .nili
 | fn f => exact .fn f
 | sli sz rows A cap us hc hm hA hz hv hs ih => exact .sli sz rows A cap us hc hm hA hz ih (fun a i j r c e h1 h2 => h _ _ (hs a i j r c e h1 h2))
 | ptr cells a us hv hs ih => exact .ptr cells a us ih (fun j c h1 => h _ _ (hs j c h1))
 | slin b sz rows A len cap hs hb ih => exact .slin b sz rows A len cap ih hb

abbrev Id := List Nat

/-- Values of a body that is walked: trees, and what points to blocks of one's own (told by ids). -/
inductive AV where
 | tv (t : TV)
 | ptr (id : Id) (off : Nat)
 | sl (id : Id) (sz off len : Nat)
 | map (id : Id)
 | fn (f : Fn) (captured : List AV)
 | iface (t : TypeId) (v : AV)
 | agg (cells : List AV)
 | tup (vs : List AV)
 | yl (id : Id)
 | ds (l : List AV)
 | any
 deriving Inhabited

/-- Where the blocks of one's own lie: the block's number and how many cells it has ('some none': an empty row that lies nowhere). -/
abbrev Where := Id → Option (Option (Nat × Nat))

inductive VR (σ : Facts) (ι : Where) : AV → Value → Prop
 | tv {t : TV} {u : Value} (h : TR σ t u) : VR σ ι (.tv t) u
 | ptr (id : Id) (off b n : Nat) (h : ι id = some (some (b, n))) : VR σ ι (.ptr id off) (.pointer (some ⟨b, off, none⟩))
 | sl (id : Id) (sz off len b n cap : Nat) (h : ι id = some (some (b, n))) (hc : len ≤ cap) (hn : (off + cap) * sz ≤ n) (hm : len ≤ 9223372036854775807) :
   VR σ ι (.sl id sz off len) (.slice (some ⟨b, off * sz, none⟩) len cap)
 | sl0 (id : Id) (sz off : Nat) (A : Option Addr) : VR σ ι (.sl id sz off 0) (.slice A 0 0)
 | map (id : Id) (b n : Nat) (h : ι id = some (some (b, n))) : VR σ ι (.map id) (.map (some b))
 | fn (f : Fn) (captured : List AV) (us : List Value) (hl : us.length = captured.length)
   (hv : ∀ (j : Nat) (c : AV) (u : Value), captured[j]? = some c → us[j]? = some u → VR σ ι c u) : VR σ ι (.fn f captured) (.func f #[] us.toArray)
 | iface (t : TypeId) (v : AV) (u : Value) (h : VR σ ι v u) : VR σ ι (.iface t v) (.iface t u)
 | agg (cells : List AV) (us : List Value) (hl : us.length = cells.length)
   (hv : ∀ (j : Nat) (c : AV) (u : Value), cells[j]? = some c → us[j]? = some u → VR σ ι c u) : VR σ ι (.agg cells) (.agg us.toArray)
 | tup (vs : List AV) (us : List Value) (hl : us.length = vs.length)
   (hv : ∀ (j : Nat) (c : AV) (u : Value), vs[j]? = some c → us[j]? = some u → VR σ ι c u) : VR σ ι (.tup vs) (.tuple us.toArray)
 | yl (id : Id) (b n : Nat) (h : ι id = some (some (b, n))) : VR σ ι (.yl id) (.func (.yield b) #[] #[])
 | ds (l : List AV) (u : Value) : VR σ ι (.ds l) u
 | any (u : Value) : VR σ ι .any u

theorem VR.mono {σ σ' : Facts} {ι ι' : Where} (h : ∀ a v, σ a v → σ' a v) (hι : ∀ id x, ι id = some x → ι' id = some x) {v : AV} {u : Value} (hv : VR σ ι v u) : VR σ' ι' v u := by
 induction hv with
 | tv ht => exact .tv (ht.mono h)
 | ptr id off b n hi => exact .ptr id off b n (hι _ _ hi)
 | sl id sz off len b n cap hi hc hn hm => exact .sl id sz off len b n cap (hι _ _ hi) hc hn hm
 | sl0 id sz off A => exact .sl0 id sz off A
 | map id b n hi => exact .map id b n (hι _ _ hi)
 | fn f cs us hl _ ih => exact .fn f cs us hl ih
 | iface t v u _ ih => exact .iface t v u ih
 | agg cs us hl _ ih => exact .agg cs us hl ih
 | tup cs us hl _ ih => exact .tup cs us hl ih
 | yl id b n hi => exact .yl id b n (hι _ _ hi)
 | ds l u => exact .ds l u
 | any u => exact .any u

/-- The values of a list. -/
def VRs (σ : Facts) (ι : Where) (vs : List AV) (us : List Value) : Prop := us.length = vs.length ∧ ∀ (j : Nat) (c : AV) (u : Value), vs[j]? = some c → us[j]? = some u → VR σ ι c u
theorem VRs.mono {σ σ' : Facts} {ι ι' : Where} (h : ∀ a v, σ a v → σ' a v) (hι : ∀ id x, ι id = some x → ι' id = some x) {vs : List AV} {us : List Value} (hv : VRs σ ι vs us) : VRs σ' ι' vs us :=
 ⟨hv.1, fun j c u h1 h2 => (hv.2 j c u h1 h2).mono h hι⟩
theorem VRs.nil (σ : Facts) (ι : Where) : VRs σ ι [] [] := ⟨rfl, fun j c u h _ => by simp at h⟩
theorem VRs.cons {σ : Facts} {ι : Where} {v : AV} {u : Value} {vs : List AV} {us : List Value} (h : VR σ ι v u) (hs : VRs σ ι vs us) : VRs σ ι (v :: vs) (u :: us) := by
 refine ⟨by simp [hs.1], fun j c x h1 h2 => ?_⟩
 cases j with
 | zero => simp at h1 h2; subst h1 h2; exact h
 | succ j => simp at h1 h2; exact hs.2 j c x h1 h2
theorem VRs.cons_inv {σ : Facts} {ι : Where} {v : AV} {vs : List AV} {us : List Value} (h : VRs σ ι (v :: vs) us) : ∃ u us', us = u :: us' ∧ VR σ ι v u ∧ VRs σ ι vs us' := by
 obtain ⟨hl, hv⟩ := h
 cases us with
 | nil => simp at hl
 | cons u us => exact ⟨u, us, rfl, hv 0 v u rfl rfl, by simpa using hl, fun j c x h1 h2 => hv (j + 1) c x (by simpa using h1) (by simpa using h2)⟩
theorem VRs.nil_inv {σ : Facts} {ι : Where} {us : List Value} (h : VRs σ ι [] us) : us = [] := by
 have := h.1; simpa using this
theorem VRs.append {σ : Facts} {ι : Where} {vs vs' : List AV} {us us' : List Value} (h : VRs σ ι vs us) (h' : VRs σ ι vs' us') : VRs σ ι (vs ++ vs') (us ++ us') := by
 induction vs generalizing us with
 | nil => have := h.nil_inv; subst this; simpa using h'
 | cons v vs ih =>
  obtain ⟨u, us1, rfl, h1, h2⟩ := h.cons_inv
  exact VRs.cons h1 (ih h2)
theorem VRs.drop {σ : Facts} {ι : Where} {vs : List AV} {us : List Value} (h : VRs σ ι vs us) (n : Nat) : VRs σ ι (vs.drop n) (us.drop n) :=
 ⟨by simp [h.1], fun j c u h1 h2 => by rw [List.getElem?_drop] at h1 h2; exact h.2 _ c u h1 h2⟩
theorem VRs.take {σ : Facts} {ι : Where} {vs : List AV} {us : List Value} (h : VRs σ ι vs us) (n : Nat) : VRs σ ι (vs.take n) (us.take n) := by
 refine ⟨by simp [h.1], fun j c u h1 h2 => ?_⟩
 rw [List.getElem?_take] at h1 h2
 split at h1
 ·rename_i hj; rw [if_pos hj] at h2; exact h.2 _ c u h1 h2
 ·cases h1
theorem VRs.get {σ : Facts} {ι : Where} {vs : List AV} {us : List Value} (h : VRs σ ι vs us) {j : Nat} {c : AV} (hc : vs[j]? = some c) : ∃ u, us[j]? = some u ∧ VR σ ι c u := by
 have hj : j < us.length := by
  have := (List.getElem?_eq_some_iff.1 hc).1; have := h.1; omega
 exact ⟨us[j], by simp [hj], h.2 j c _ hc (by simp [hj])⟩
theorem VRs.set {σ : Facts} {ι : Where} {vs : List AV} {us : List Value} (h : VRs σ ι vs us) {v : AV} {u : Value} (hv : VR σ ι v u) (n : Nat) : VRs σ ι (vs.set n v) (us.set n u) := by
 refine ⟨by simp [h.1], fun j c x h1 h2 => ?_⟩
 rw [List.getElem?_set] at h1 h2
 by_cases e : n = j
 ·subst e
  simp only [if_true] at h1 h2
  split at h1
  ·rename_i h3; rw [if_pos (by rw [h.1]; exact h3)] at h2; cases h1; cases h2; exact hv
  ·cases h1
 ·rw [if_neg e] at h1 h2; exact h.2 j c x h1 h2

/-- A value that names no id: it means the same wherever the ids lie. -/
def AV.cl0 : AV → Bool
 | .tv _ => true
 | _ => false
def AV.cl1 : AV → Bool
 | .agg cs => cs.all AV.cl0
 | v => v.cl0
def AV.cl : AV → Bool
 | .tup vs => vs.all AV.cl1
 | .iface _ v => v.cl1
 | .fn _ cs => cs.all AV.cl1
 | v => v.cl1
theorem VR.cl0 {σ : Facts} {ι ι' : Where} {v : AV} {u : Value} (h : VR σ ι v u) (hc : v.cl0 = true) : VR σ ι' v u := by
 cases h <;> simp [AV.cl0] at hc
 case tv h => exact .tv h
theorem VR.cl1 {σ : Facts} {ι ι' : Where} {v : AV} {u : Value} (h : VR σ ι v u) (hc : v.cl1 = true) : VR σ ι' v u := by
 cases h <;> simp [AV.cl1, AV.cl0] at hc
 case tv h => exact .tv h
 case agg cs us hl hv => exact .agg cs us hl (fun j c u h1 h2 => (hv j c u h1 h2).cl0 (hc c (List.mem_of_getElem? h1)))
theorem VR.cl {σ : Facts} {ι ι' : Where} {v : AV} {u : Value} (h : VR σ ι v u) (hc : v.cl = true) : VR σ ι' v u := by
 cases h <;> simp [AV.cl, AV.cl1, AV.cl0] at hc
 case tv h => exact .tv h
 case agg cs us hl hv => exact .agg cs us hl (fun j c u h1 h2 => (hv j c u h1 h2).cl0 (hc c (List.mem_of_getElem? h1)))
 case tup cs us hl hv => exact .tup cs us hl (fun j c u h1 h2 => (hv j c u h1 h2).cl1 (hc c (List.mem_of_getElem? h1)))
 case fn f cs us hl hv => exact .fn f cs us hl (fun j c u h1 h2 => (hv j c u h1 h2).cl1 (hc c (List.mem_of_getElem? h1)))
 case iface t v u h => exact .iface t v u (h.cl1 hc)
end Go.Proofs.YtphmhelkojdlaaaDoor
namespace Go.Proofs.YtphmhelkojdlaaaDoor
open Go.RowKit
set_option linter.unusedSimpArgs false
set_option linter.unusedVariables false
abbrev Tm := List (Nat × AV)
def tget : Tm → Nat → AV
 | [], _ => .any
 | (t, v) :: r, n => if t = n then v else tget r n
/-- The record of a range over a function, and the block for what its rounds defer. -/
inductive AO where
 | row (cells : List AV) (ro : Bool)
 | smap (es : List (ByteArray × AV))
 | loop (T : Tm) (nt : Nat) (ps : List Nat) (assign body : Code) (st : LoopState) (jump : Option Code)
 | dfr
 | gone
 deriving Inhabited

abbrev Hp := List (Id × AO)
def hget : Hp → Id → Option AO
 | [], _ => none
 | (i, o) :: r, j => if i = j then some o else hget r j
def hset : Hp → Id → AO → Hp
 | [], _, _ => []
 | (i, o) :: r, j, x => if i = j then (i, x) :: r else (i, o) :: hset r j x
def hdel : Hp → Id → Hp
 | [], _ => []
 | (i, o) :: r, j => if i = j then hdel r j else (i, o) :: hdel r j
theorem hget_hset (H : Hp) (i j : Id) (o : AO) : hget (hset H i o) j = if i = j then (hget H i).map (fun _ => o) else hget H j := by
 induction H with
 | nil => simp [hset, hget]
 | cons p r ih =>
  obtain ⟨k, x⟩ := p
  simp only [hset]
  by_cases e : k = i
  ·subst e
   simp only [if_true, hget]
   by_cases e2 : k = j <;> simp [e2]
  ·simp only [e, if_false, hget, ih]
   by_cases e2 : k = j
   ·subst e2
    have : ¬ i = k := fun h => e h.symm
    simp [this]
   ·simp [e2]
theorem hget_hdel (H : Hp) (i j : Id) : hget (hdel H i) j = if i = j then none else hget H j := by
 induction H with
 | nil => simp [hdel, hget]
 | cons p r ih =>
  obtain ⟨k, x⟩ := p
  simp only [hdel]
  by_cases e : k = i
  ·subst e
   simp only [if_true, hget, ih]
   by_cases e2 : k = j <;> simp [e2]
  ·simp only [e, if_false, hget, ih]
   by_cases e2 : k = j
   ·subst e2
    have : ¬ i = k := fun h => e h.symm
    simp [this]
   ·simp [e2]

def OR (σ : Facts) (ι : Where) (o : AO) (n : Nat) (obj : Obj) : Prop :=
 match o with
 | .row cells _ => ∃ arr e, obj = .cells arr e (0, 0) ∧ arr.size = n ∧ cells.length ≤ n ∧ ∀ (j : Nat) (c : AV), cells[j]? = some c → ∃ u, arr[j]? = some u ∧ VR σ ι c u
 | .smap es => ∃ arr clock, obj = .map arr clock ∧ arr.size = es.length ∧ ∀ (j : Nat) (k : ByteArray) (v : AV), es[j]? = some (k, v) → ∃ e, arr[j]? = some e ∧ e.key = .string k ∧ VR σ ι v e.val
 | .loop T nt ps assign body st jump => ∃ r : Loop, obj = .loop r ∧ (∀ t, VR σ ι (tget T t) (r.tmps.getD t undef)) ∧ r.tmps.size = nt ∧ r.params = ps.toArray ∧ r.assign = assign ∧ r.body = body ∧ r.state = st ∧ r.pending = jump
 | .dfr => obj = .deferred (some [])
 | .gone => True
theorem OR.mono {σ σ' : Facts} {ι ι' : Where} (h : ∀ a v, σ a v → σ' a v) (hι : ∀ id x, ι id = some x → ι' id = some x) {o : AO} {n : Nat} {obj : Obj} (ho : OR σ ι o n obj) : OR σ' ι' o n obj := by
 cases o with
 | row cells ro =>
  obtain ⟨arr, e, h1, h2, h3, h4⟩ := ho
  exact ⟨arr, e, h1, h2, h3, fun j c hc => let ⟨u, hu, hv⟩ := h4 j c hc; ⟨u, hu, hv.mono h hι⟩⟩
 | smap es =>
  obtain ⟨arr, cl, h1, h2, h3⟩ := ho
  exact ⟨arr, cl, h1, h2, fun j k v hc => let ⟨e, he, hk, hv⟩ := h3 j k v hc; ⟨e, he, hk, hv.mono h hι⟩⟩
 | loop T nt ps asg body st jump =>
  obtain ⟨r, h1, h2, h3⟩ := ho
  exact ⟨r, h1, fun t => (h2 t).mono h hι, h3⟩
 | dfr => exact ho
 | gone => exact ho

/-- Where a call began: the memory's size there, and what was known. -/
structure Base where
 B : Nat
 S : Facts
 K : Nat → Prop := fun _ => False
/-- A block that a walk may call its own. -/
def Base.own (B : Base) (b : Nat) : Prop := B.B ≤ b ∧ ¬ B.K b
/-- What lies below the base is as it was, and so are the blocks that the base names. -/
structure Bel (B : Base) (w w' : World) : Prop where
 below : Below B.B w w'
 keep : ∀ b, B.K b → b < w.heap.size ∧ w'.heap[b]? = w.heap[b]?
theorem Bel.size {B : Base} {w w' : World} (h : Bel B w w') : w.heap.size ≤ w'.heap.size := h.below.size
theorem Bel.step {B : Base} {a b c : World} (h : Bel B a b) (k : Below B.B b c) (kk : ∀ i, B.K i → c.heap[i]? = b.heap[i]?) : Bel B a c :=
 ⟨h.below.trans k, fun i hi => ⟨(h.keep i hi).1, (kk i hi).trans (h.keep i hi).2⟩⟩
theorem Bel.alloc {B : Base} {a w : World} (h : Bel B a w) (hB : B.B ≤ w.heap.size) (o : Obj) : Bel B a (w.alloc o) :=
 ⟨h.below.alloc hB o, fun i hi => ⟨(h.keep i hi).1, (Below.heap_alloc w o i (Nat.lt_of_lt_of_le (h.keep i hi).1 h.size)).trans (h.keep i hi).2⟩⟩
/-- The world that a walk has come to: below B it is as w0 was; the blocks of H lie where ι says; what σ knows holds, and no block of H that may be written bears it. -/
structure WR (B : Base) (w0 : World) (σ : Facts) (ι : Where) (H : Hp) (w : World) : Prop where
 hB : B.B ≤ w0.heap.size
 below : Bel B w0 w
 obj : ∀ id o b n, hget H id = some o → ι id = some (some (b, n)) → B.own b ∧ ∃ obj, w.heap[b]? = some obj ∧ OR σ ι o n obj
 ghost : ∀ id o, hget H id = some o → ι id = some none → ∃ ro, o = .row [] ro
 dom : ∀ id o, hget H id = some o → ι id ≠ none
 inj : ∀ id id' o o' b n n', hget H id = some o → hget H id' = some o' → ι id = some (some (b, n)) → ι id' = some (some (b, n')) → id = id'
 sure : ∀ a v, σ a v → w.cell? a = some v
 stab : ∀ a v, σ a v → ∀ id o b n, hget H id = some o → ι id = some (some (b, n)) → a.block = b → ∃ cells, o = .row cells true ∧ a.off < cells.length
 newf : ∀ a v, σ a v → B.S a v ∨ B.own a.block

variable {B : Base} {w0 w w' : World} {σ σ' : Facts} {ι ι' : Where} {H H' : Hp}
theorem WR.size (h : WR B w0 σ ι H w) : B.B ≤ w.heap.size := Nat.le_trans h.hB h.below.size
theorem WR.fresh (h : WR B w0 σ ι H w) : B.own w.heap.size := ⟨h.size, fun hk => absurd (Nat.lt_of_lt_of_le (h.below.keep _ hk).1 h.below.size) (Nat.lt_irrefl _)⟩
theorem WR.weaken (h : WR B w0 σ ι H w) (hH : ∀ id o, hget H' id = some o → hget H id = some o) : WR B w0 σ ι H' w :=
 ⟨h.hB, h.below, fun id o b n ho => h.obj id o b n (hH _ _ ho), fun id o ho => h.ghost id o (hH _ _ ho), fun id o ho => h.dom id o (hH _ _ ho), fun id id' o o' b n n' h1 h2 => h.inj id id' o o' b n n' (hH _ _ h1) (hH _ _ h2), h.sure,
  fun a v hs id o b n ho => h.stab a v hs id o b n (hH _ _ ho), h.newf⟩
theorem WR.same (h : WR B w0 σ ι H w) (h1 : w'.heap = w.heap) (h2 : w'.os = w.os) (h3 : w'.tape = w.tape) (h4 : w'.output = w.output) : WR B w0 σ ι H w' := by
 refine ⟨h.hB, h.below.step ⟨h2, h3, h4, by rw [h1]; exact Nat.le_refl _, fun k _ => by rw [h1]⟩ (fun k _ => by rw [h1]), ?_, h.ghost, h.dom, h.inj, ?_, h.stab, h.newf⟩
 ·intro id o b n ho hi
  obtain ⟨hb, obj, hw, hr⟩ := h.obj id o b n ho hi
  exact ⟨hb, obj, by rw [h1]; exact hw, hr⟩
 ·intro a v hs
  have := h.sure a v hs
  simpa [World.cell?, h1] using this
theorem WR.drew (h : WR B w0 σ ι H w) : WR B w0 σ ι H w.drew := h.same rfl rfl rfl rfl
theorem WR.drawn (h : WR B w0 σ ι H w) (n : Nat) : WR B w0 σ ι H { w with drawn := n } := h.same rfl rfl rfl rfl
theorem WR.lt (h : WR B w0 σ ι H w) {id : Id} {o : AO} {b n : Nat} (ho : hget H id = some o) (hi : ι id = some (some (b, n))) : b < w.heap.size := by
 obtain ⟨_, obj, hw, _⟩ := h.obj id o b n ho hi
 exact (Array.getElem?_eq_some_iff.1 hw).1
theorem WR.slt (h : WR B w0 σ ι H w) {a : Addr} {v : Value} (hs : σ a v) : a.block < w.heap.size := World.block_lt_of_cell? w a (h.sure a v hs)
/-- A new block that is not told. -/
theorem WR.junk (h : WR B w0 σ ι H w) (x : Obj) : WR B w0 σ ι H (w.alloc x) := by
 refine ⟨h.hB, h.below.alloc h.size x, ?_, h.ghost, h.dom, h.inj, ?_, h.stab, h.newf⟩
 ·intro id o b n ho hi
  obtain ⟨hb, obj, hw, hr⟩ := h.obj id o b n ho hi
  exact ⟨hb, obj, (Below.heap_alloc _ _ _ (Array.getElem?_eq_some_iff.1 hw).1).trans hw, hr⟩
 ·intro a v hs
  rw [World.cell?_alloc_lt _ _ _ (h.slt hs)]; exact h.sure a v hs
def wput (ι : Where) (id : Id) (x : Option (Nat × Nat)) : Where := fun j => if j = id then some x else ι j
theorem wput_le {ι : Where} {id : Id} {x : Option (Nat × Nat)} (h : ι id = none) : ∀ j y, ι j = some y → wput ι id x j = some y := by
 intro j y hj
 unfold wput
 split
 ·rename_i e; subst e; rw [h] at hj; cases hj
 ·exact hj
/-- A new block that is told. -/
theorem WR.new (h : WR B w0 σ ι H w) (id : Id) (hid : ι id = none) (x : Obj) (n : Nat) (o : AO) (ho : OR σ (wput ι id (some (w.heap.size, n))) o n x) :
  WR B w0 σ (wput ι id (some (w.heap.size, n))) ((id, o) :: H) (w.alloc x) := by
 have hle := wput_le (x := some (w.heap.size, n)) hid
 have old : ∀ j o', hget ((id, o) :: H) j = some o' → j = id ∧ o' = o ∨ j ≠ id ∧ hget H j = some o' := by
  intro j o' hj
  simp only [hget] at hj
  by_cases e : id = j
  ·rw [if_pos e] at hj; cases hj; exact .inl ⟨e.symm, rfl⟩
  ·rw [if_neg e] at hj; exact .inr ⟨fun e2 => e e2.symm, hj⟩
 have at_ : ∀ j, j ≠ id → wput ι id (some (w.heap.size, n)) j = ι j := fun j hj => by unfold wput; rw [if_neg hj]
 have atid : wput ι id (some (w.heap.size, n)) id = some (some (w.heap.size, n)) := by unfold wput; rw [if_pos rfl]
 refine ⟨h.hB, h.below.alloc h.size x, ?_, ?_, ?_, ?_, ?_, ?_, h.newf⟩
 ·intro j o' b m hj hi
  rcases old j o' hj with ⟨rfl, rfl⟩ | ⟨hne, hj⟩
  ·rw [atid] at hi; cases hi
   exact ⟨h.fresh, x, (by show (w.heap.push x)[w.heap.size]? = some x; simp), ho⟩
  ·rw [at_ _ hne] at hi
   obtain ⟨hb, obj, hw, hr⟩ := h.obj j o' b m hj hi
   exact ⟨hb, obj, (Below.heap_alloc _ _ _ (Array.getElem?_eq_some_iff.1 hw).1).trans hw, hr.mono (fun _ _ h => h) hle⟩
 ·intro j o' hj hi
  rcases old j o' hj with ⟨rfl, rfl⟩ | ⟨hne, hj⟩
  ·rw [atid] at hi; cases hi
  ·rw [at_ _ hne] at hi; exact h.ghost j o' hj hi
 ·intro j o' hj
  rcases old j o' hj with ⟨rfl, rfl⟩ | ⟨hne, hj⟩
  ·rw [atid]; simp
  ·rw [at_ _ hne]; exact h.dom j o' hj
 ·intro j j' o1 o2 b n1 n2 h1 h2 h3 h4
  rcases old j o1 h1 with ⟨rfl, rfl⟩ | ⟨hne, h1'⟩ <;> rcases old j' o2 h2 with ⟨rfl, rfl⟩ | ⟨hne', h2'⟩
  ·rfl
  ·rw [atid] at h3; cases h3
   rw [at_ _ hne'] at h4
   have := h.lt h2' h4; omega
  ·rw [atid] at h4; cases h4
   rw [at_ _ hne] at h3
   have := h.lt h1' h3; omega
  ·rw [at_ _ hne] at h3; rw [at_ _ hne'] at h4
   exact h.inj j j' o1 o2 b n1 n2 h1' h2' h3 h4
 ·intro a v hs
  rw [World.cell?_alloc_lt _ _ _ (h.slt hs)]; exact h.sure a v hs
 ·intro a v hs j o' b m hj hi hb
  rcases old j o' hj with ⟨rfl, rfl⟩ | ⟨hne, hj⟩
  ·rw [atid] at hi; cases hi
   have := h.slt hs; omega
  ·rw [at_ _ hne] at hi
   exact h.stab a v hs j o' b m hj hi hb
/-- A block of one's own is written. -/
theorem WR.write (h : WR B w0 σ ι H w) {id : Id} {o : AO} {b n : Nat} (hid : hget H id = some o) (hi : ι id = some (some (b, n))) (o' : AO) {x : Obj}
  (hw : w'.heap[b]? = some x) (ho : OR σ ι o' n x) (hk : ∀ k, k ≠ b → w'.heap[k]? = w.heap[k]?) (hz : w'.heap.size = w.heap.size)
  (h2 : w'.os = w.os) (h3 : w'.tape = w.tape) (h4 : w'.output = w.output)
  (hs : ∀ a v, σ a v → a.block = b → w'.cell? a = some v ∧ ∃ cells, o' = .row cells true ∧ a.off < cells.length) : WR B w0 σ ι (hset H id o') w' := by
 have hb : B.own b := (h.obj id o b n hid hi).1
 have hb1 : B.B ≤ b := hb.1
 have old : ∀ j y, hget (hset H id o') j = some y → j = id ∧ y = o' ∨ j ≠ id ∧ hget H j = some y := by
  intro j y hj
  rw [hget_hset] at hj
  by_cases e : id = j
  ·rw [if_pos e, hid] at hj; simp at hj; exact .inl ⟨e.symm, hj.symm⟩
  ·rw [if_neg e] at hj; exact .inr ⟨fun e2 => e e2.symm, hj⟩
 have was : ∀ j y, hget (hset H id o') j = some y → ∃ y', hget H j = some y' := by
  intro j y hj
  rcases old j y hj with ⟨rfl, rfl⟩ | ⟨_, hj⟩
  ·exact ⟨_, hid⟩
  ·exact ⟨_, hj⟩
 refine ⟨h.hB, h.below.step ⟨h2, h3, h4, by omega, fun k hkb => hk k (by omega)⟩ (fun k hkk => hk k (fun e => hb.2 (e ▸ hkk))), ?_, ?_, ?_, ?_, ?_, ?_, h.newf⟩
 ·intro j y b' m hj hi'
  rcases old j y hj with ⟨rfl, rfl⟩ | ⟨hne, hj⟩
  ·rw [hi] at hi'; cases hi'; exact ⟨hb, x, hw, ho⟩
  ·obtain ⟨hb', obj, hw', hr⟩ := h.obj j y b' m hj hi'
   refine ⟨hb', obj, ?_, hr⟩
   rw [hk b' (fun e => hne (by subst e; exact h.inj j id y o b' m n hj hid hi' hi))]; exact hw'
 ·intro j y hj hi'
  rcases old j y hj with ⟨rfl, rfl⟩ | ⟨hne, hj⟩
  ·rw [hi] at hi'; cases hi'
  ·exact h.ghost j y hj hi'
 ·intro j y hj
  obtain ⟨y', hj'⟩ := was _ _ hj
  exact h.dom j y' hj'
 ·intro j j' o1 o2 b1 n1 n2 h1 h2 h3 h4
  obtain ⟨y1, h1⟩ := was _ _ h1
  obtain ⟨y2, h2⟩ := was _ _ h2
  exact h.inj j j' y1 y2 b1 n1 n2 h1 h2 h3 h4
 ·intro a v hsv
  by_cases e : a.block = b
  ·exact (hs a v hsv e).1
  ·rw [World.cell?_of_block (w := w) (hk _ e)]; exact h.sure a v hsv
 ·intro a v hsv j y b' m hj hi' hb'
  rcases old j y hj with ⟨rfl, rfl⟩ | ⟨hne, hj⟩
  ·rw [hi] at hi'; cases hi'
   exact (hs a v hsv hb').2
  ·exact h.stab a v hsv j y b' m hj hi' hb'
/-- What a row's cells hold becomes known for good: the row is not written any more (but for what is appended). -/
def froz (σ : Facts) (b : Nat) (n : Nat) (w : World) : Facts := fun a v => σ a v ∨ (a.block = b ∧ a.off < n ∧ w.cell? a = some v)
theorem WR.freeze (h : WR B w0 σ ι H w) {id : Id} {cells : List AV} {ro : Bool} {b n : Nat} (hid : hget H id = some (.row cells ro)) (hi : ι id = some (some (b, n))) :
  WR B w0 (froz σ b cells.length w) ι (hset H id (.row cells true)) w := by
 have hle : ∀ a v, σ a v → froz σ b cells.length w a v := fun _ _ h => .inl h
 have old : ∀ j y, hget (hset H id (.row cells true)) j = some y → j = id ∧ y = .row cells true ∨ j ≠ id ∧ hget H j = some y := by
  intro j y hj
  rw [hget_hset] at hj
  by_cases e : id = j
  ·rw [if_pos e, hid] at hj; simp at hj; exact .inl ⟨e.symm, hj.symm⟩
  ·rw [if_neg e] at hj; exact .inr ⟨fun e2 => e e2.symm, hj⟩
 have was : ∀ j y, hget (hset H id (.row cells true)) j = some y → ∃ y', hget H j = some y' := by
  intro j y hj
  rcases old j y hj with ⟨rfl, rfl⟩ | ⟨_, hj⟩
  ·exact ⟨_, hid⟩
  ·exact ⟨_, hj⟩
 refine ⟨h.hB, h.below, ?_, ?_, ?_, ?_, ?_, ?_, fun a v hs => hs.elim (h.newf a v) (fun hs => .inr (by rw [hs.1]; exact (h.obj _ _ _ _ hid hi).1))⟩
 ·intro j y b' m hj hi'
  rcases old j y hj with ⟨rfl, rfl⟩ | ⟨hne, hj⟩
  ·obtain ⟨hb', obj, hw', hr⟩ := h.obj _ _ _ _ hid hi'
   exact ⟨hb', obj, hw', (show OR _ _ (.row cells true) _ _ from hr.mono hle (fun _ _ h => h))⟩
  ·obtain ⟨hb', obj, hw', hr⟩ := h.obj j y b' m hj hi'
   exact ⟨hb', obj, hw', hr.mono hle (fun _ _ h => h)⟩
 ·intro j y hj hi'
  rcases old j y hj with ⟨rfl, rfl⟩ | ⟨hne, hj⟩
  ·rw [hi] at hi'; cases hi'
  ·exact h.ghost j y hj hi'
 ·intro j y hj
  obtain ⟨y', hj'⟩ := was _ _ hj
  exact h.dom j y' hj'
 ·intro j j' o1 o2 b1 n1 n2 h1 h2 h3 h4
  obtain ⟨y1, h1⟩ := was _ _ h1
  obtain ⟨y2, h2⟩ := was _ _ h2
  exact h.inj j j' y1 y2 b1 n1 n2 h1 h2 h3 h4
 ·intro a v hs
  rcases hs with hs | ⟨_, _, hs⟩
  ·exact h.sure a v hs
  ·exact hs
 ·intro a v hs j y b' m hj hi' hb'
  rcases hs with hs | ⟨e1, e2, _⟩
  ·rcases old j y hj with ⟨rfl, rfl⟩ | ⟨hne, hj⟩
   ·obtain ⟨cs, he, hlt⟩ := h.stab a v hs j _ b' m hid hi' hb'
    cases he; exact ⟨cells, rfl, hlt⟩
   ·exact h.stab a v hs j y b' m hj hi' hb'
  ·rcases old j y hj with ⟨rfl, rfl⟩ | ⟨hne, hj⟩
   ·exact ⟨cells, rfl, e2⟩
   ·exfalso
    have : b' = b := hb'.symm.trans e1
    subst this
    exact hne (h.inj j id y _ b' m n hj hid hi' hi)
/-- The cells of a row. -/
theorem WR.cell (h : WR B w0 σ ι H w) {id : Id} {cells : List AV} {ro : Bool} {b n : Nat} (hid : hget H id = some (.row cells ro)) (hi : ι id = some (some (b, n))) {j : Nat} {c : AV} (hc : cells[j]? = some c) :
  ∃ u, w.cell? ⟨b, j, none⟩ = some u ∧ VR σ ι c u ∧ w.frozen? ⟨b, j, none⟩ = false := by
 obtain ⟨_, obj, hw', arr, e, rfl, _, _, hr⟩ := h.obj _ _ _ _ hid hi
 obtain ⟨u, hu, hv⟩ := hr j c hc
 exact ⟨u, by simp [World.cell?, hw', hu], hv, by simp [World.frozen?, hw']⟩
/-- A row that lies nowhere: it is empty. -/
theorem WR.empty (h : WR B w0 σ ι H w) (id : Id) (hid : ι id = none) (ro : Bool) : WR B w0 σ (wput ι id none) ((id, .row [] ro) :: H) w := by
 have hle := wput_le (x := none) hid
 have atid : wput ι id none id = some none := by unfold wput; rw [if_pos rfl]
 have at_ : ∀ j, j ≠ id → wput ι id none j = ι j := fun j hj => by unfold wput; rw [if_neg hj]
 have old : ∀ j o', hget ((id, AO.row [] ro) :: H) j = some o' → j = id ∧ o' = .row [] ro ∨ j ≠ id ∧ hget H j = some o' := by
  intro j o' hj
  simp only [hget] at hj
  by_cases e : id = j
  ·rw [if_pos e] at hj; cases hj; exact .inl ⟨e.symm, rfl⟩
  ·rw [if_neg e] at hj; exact .inr ⟨fun e2 => e e2.symm, hj⟩
 refine ⟨h.hB, h.below, ?_, ?_, ?_, ?_, h.sure, ?_, h.newf⟩
 ·intro j o' b n hj hi
  rcases old j o' hj with ⟨rfl, rfl⟩ | ⟨hne, hj⟩
  ·rw [atid] at hi; cases hi
  ·rw [at_ _ hne] at hi
   obtain ⟨h1, obj, h2, h3⟩ := h.obj j o' b n hj hi
   exact ⟨h1, obj, h2, h3.mono (fun _ _ h => h) hle⟩
 ·intro j o' hj hi
  rcases old j o' hj with ⟨rfl, rfl⟩ | ⟨hne, hj⟩
  ·exact ⟨ro, rfl⟩
  ·rw [at_ _ hne] at hi; exact h.ghost j o' hj hi
 ·intro j o' hj
  rcases old j o' hj with ⟨rfl, rfl⟩ | ⟨hne, hj⟩
  ·rw [atid]; simp
  ·rw [at_ _ hne]; exact h.dom j o' hj
 ·intro j j' o1 o2 b n1 n2 h1 h2 h3 h4
  rcases old j o1 h1 with ⟨rfl, rfl⟩ | ⟨hne, h1'⟩
  ·rw [atid] at h3; cases h3
  ·rcases old j' o2 h2 with ⟨rfl, rfl⟩ | ⟨hne', h2'⟩
   ·rw [atid] at h4; cases h4
   ·rw [at_ _ hne] at h3; rw [at_ _ hne'] at h4
    exact h.inj j j' o1 o2 b n1 n2 h1' h2' h3 h4
 ·intro a v hs j o' b n hj hi hb
  rcases old j o' hj with ⟨rfl, rfl⟩ | ⟨hne, hj⟩
  ·rw [atid] at hi; cases hi
  ·rw [at_ _ hne] at hi; exact h.stab a v hs j o' b n hj hi hb
end Go.Proofs.YtphmhelkojdlaaaDoor
namespace Go.Proofs.YtphmhelkojdlaaaDoor
open Go.RowKit
set_option linter.unusedSimpArgs false
set_option linter.unusedVariables false
/-! ### The types' facts that an operation asks -/
def tAgg (P : Program) (t : TypeId) : Option Bool := match P.underlying t with
 | some (.struct _) => some true
 | some (.array _ _) => some true
 | some _ => some false
 | none => none
def tSz (P : Program) (t : TypeId) : Option Nat := (P.info? t).map (·.size)
def tBy (P : Program) (t : TypeId) : Option Nat := (P.info? t).map (·.bytes)
def tElem (P : Program) (t : TypeId) : Option TypeId := match P.underlying t with
 | some (.slice e) => some e
 | _ => none
def tArr (P : Program) (t : TypeId) : Option (Nat × TypeId) := match P.underlying t with
 | some (.array n e) => some (n, e)
 | _ => none
/-- A field: its place, its type, its size. -/
def tFld (P : Program) (s : TypeId) (f : Nat) : Option (Nat × TypeId) := match P.underlying s with
 | some (.struct fs) => (fs[f]?).map fun x => (x.offset, x.type)
 | _ => none
def tInt (P : Program) (t : TypeId) : Option IntKind := match P.underlying t with
 | some (.int k) => some k
 | _ => none
def tMap (P : Program) (t : TypeId) : Option (TypeId × TypeId) := match P.underlying t with
 | some (.map k e) => some (k, e)
 | _ => none
def tStr (P : Program) (t : TypeId) : Bool := match P.underlying t with
 | some .string => true
 | _ => false
def tBool (P : Program) (t : TypeId) : Bool := match P.underlying t with
 | some .bool => true
 | _ => false
/-- A literal value, told. -/
def ofV0 : Value → AV
 | .bool b => .tv (.bool b)
 | .int k n => .tv (.int k n)
 | .string s => .tv (.str s)
 | .slice none 0 0 => .tv .nils
 | .pointer none => .tv .nilp
 | .map none => .tv .nilm
 | .nilFunc => .tv .nilf
 | .nilIface => .tv .nili
 | _ => .any
def ofV : Value → AV
 | .agg cs => .agg (cs.toList.map ofV0)
 | v => ofV0 v
/-- Strings in a literal are short. -/
def litOk : Value → Bool
 | .string s => decide (s.size ≤ 1000000)
 | .agg cs => cs.toList.all fun | .string s => decide (s.size ≤ 1000000) | _ => true
 | _ => true
def tZero (P : Program) (t : TypeId) : Option AV := match (P.info? t).bind (·.zero) with
 | some z => if litOk z then some (ofV z) else none
 | none => none

/-! ### Told values -/
def evo (T : Tm) : Operand → AV
 | .tmp t => tget T t
 | .const v => ofV v
 | .func f => .tv (.fn f)
 | .global _ => .any
/-- A cell's worth: neither a struct nor unknown. -/
def AV.one : AV → Bool
 | .agg _ => false
 | .tup _ => false
 | .ds _ => false
 | .any => false
 | _ => true
def AV.cells : AV → Option (List AV)
 | .agg cs => some cs
 | .tup _ => none
 | .ds _ => none
 | .any => none
 | v => some [v]
def joinC (agg : Bool) (cs : List AV) : AV := bif agg then .agg cs else cs.headD .any
def splice (cs : List AV) (off : Nat) (news : List AV) : List AV := cs.take off ++ news ++ cs.drop (off + news.length)
def tvs : List AV → Option (List TV)
 | [] => some []
 | .tv t :: r => (tvs r).map (t :: ·)
 | _ :: _ => none
/-- A list cut into pieces of n. -/
def chunk (n : Nat) : Nat → List TV → List (List TV)
 | 0, _ => []
 | k + 1, l => l.take n :: chunk n k (l.drop n)
def rowAt (rows : List (List TV)) (i : Int) : List TV := rows.getD i.toNat []
def sbyte (s : ByteArray) (i : Int) : Int := ((s.data.toList.getD i.toNat 0).toNat : Int)
def sget : List (ByteArray × AV) → ByteArray → Option AV
 | [], _ => none
 | (k, v) :: r, q => if k = q then some v else sget r q
def sput : List (ByteArray × AV) → ByteArray → AV → List (ByteArray × AV)
 | [], q, x => [(q, x)]
 | (k, v) :: r, q, x => if k = q then (k, x) :: r else (k, v) :: sput r q x
inductive Eff where
 | no
 | new (o : AO)
 | upd (id : Id) (o : AO)
 | repl (id : Id) (o : AO)
def Eff.app (e : Eff) (H : Hp) (id : Id) : Hp := match e with
 | .no => H
 | .new o => (id, o) :: H
 | .upd j o => hset H j o
 | .repl j o => (id, o) :: hdel H j
inductive Res where
 | val (v : AV) (e : Eff)
 | need (p : Prop) (r : Res)
 | call (f : FuncId) (args : List AV)
 | yld (id : Id) (args : List AV)
 | fail
abbrev vbool (b : Bool) : Res := .val (.tv (.bool b)) .no
abbrev vint (k : IntKind) (n : Int) : Res := .val (.tv (.int k n)) .no

/-- What can be computed is looked at at once. -/
def chk (c : Prop) [Decidable c] (r : Res) : Res := if c then r else .fail
def evInt (op : BinOp) (k : IntKind) (a b : Int) : Res := match op with
 | .add => vint k (k.wrap (a + b))
 | .sub => vint k (k.wrap (a - b))
 | .mul => vint k (k.wrap (a * b))
 | .quo => .need (b ≠ 0) (vint k (k.wrap (a.tdiv b)))
 | .rem => .need (b ≠ 0) (vint k (a.tmod b))
 | .eql => vbool (decide (a = b))
 | .neq => vbool (!decide (a = b))
 | .lss => vbool (decide (a < b))
 | .leq => vbool (decide (a ≤ b))
 | .gtr => vbool (decide (b < a))
 | .geq => vbool (decide (b ≤ a))
 | .and => vint k (k.wrap (BitVec.ofInt k.bits a &&& BitVec.ofInt k.bits b).toNat)
 | .or => vint k (k.wrap (BitVec.ofInt k.bits a ||| BitVec.ofInt k.bits b).toNat)
 | .xor => vint k (k.wrap (BitVec.ofInt k.bits a ^^^ BitVec.ofInt k.bits b).toNat)
 | _ => .fail
def evStr (op : BinOp) (a b : ByteArray) : Res := match op with
 | .add => .need (a.size + b.size ≤ 9223372036854775807) (.val (.tv (.str (a ++ b))) .no)
 | .eql => vbool (decide (a = b))
 | .neq => vbool (!decide (a = b))
 | _ => .fail
def evBin (P : Program) (op : BinOp) (t : TypeId) (x y : AV) : Res := match x, y with
 | .tv (.int k a), .tv (.int k' b) => match op with
  | .shl => .need (0 ≤ b) (vint k (k.wrap (a * 2 ^ (min b.toNat k.bits))))
  | .shr => .need (0 ≤ b) (vint k (a.fdiv (2 ^ (min b.toNat k.bits))))
  | _ => if k = k' then evInt op k a b else .fail
 | .tv (.str a), .tv (.str b) => evStr op a b
 | .tv (.bool a), .tv (.bool b) => if tBool P t then match op with
  | .eql => vbool (a == b)
  | .neq => vbool (!(a == b))
  | _ => .fail else .fail
 | .tv (.slin b _ _), .tv .nils => match tElem P t with
  | some _ => (match op with
   | .eql => vbool b
   | .neq => vbool (!b)
   | _ => .fail)
  | none => .fail
 | .tv .nils, .tv .nils => match tElem P t with
  | some _ => (match op with
   | .eql => vbool true
   | .neq => vbool false
   | _ => .fail)
  | none => .fail
 | _, _ => .fail
def evUn (op : UnOp) (x : AV) : Res := match op, x with
 | .not, .tv (.bool b) => vbool (!b)
 | .neg, .tv (.int k n) => vint k (k.wrap (0 - n))
 | _, _ => .fail
def evLoad (P : Program) (H : Hp) (t : TypeId) (x : AV) : Res := match tAgg P t, tSz P t with
 | some g, some n => match x with
  | .ptr i off => match hget H i with
   | some (.row cells _) => chk (((cells.drop off).take n).length = n ∧ (g = true ∨ n = 1)) (.val (joinC g ((cells.drop off).take n)) .no)
   | _ => .fail
  | .tv (.ptr cells) => chk ((cells.take n).length = n ∧ (g = true ∨ n = 1)) (.val (joinC g ((cells.take n).map .tv)) .no)
  | _ => .fail
 | _, _ => .fail
def evStore (P : Program) (H : Hp) (t : TypeId) (x v : AV) : Res := match tSz P t, x, v.cells with
 | some n, .ptr i off, some cs => match hget H i with
  | some (.row cells false) => chk (cs.length = n ∧ cs.all AV.one = true ∧ off + n ≤ cells.length) (.val (.tup []) (.upd i (.row (splice cells off cs) false)))
  | _ => .fail
 | _, _, _ => .fail
def evNew (id : Id) (v : AV) : Res := match v.cells with
 | some cs => chk (cs.all AV.one = true) (.val (.ptr id 0) (.new (.row cs false)))
 | none => .fail
def evField (P : Program) (s : TypeId) (x : AV) (f : Nat) : Res := match tFld P s f with
 | some (off, ft) => match tSz P ft with
  | some (n + 1) => match x with
   | .ptr i o => .val (.ptr i (o + off)) .no
   | .tv (.ptr cells) => .val (.tv (.ptr (cells.drop off))) .no
   | _ => .fail
  | _ => .fail
 | none => .fail
def evFieldV (P : Program) (s : TypeId) (x : AV) (f : Nat) : Res := match tFld P s f with
 | some (off, ft) => match tSz P ft, tAgg P ft, x with
  | some n, some g, .agg cells => chk (((cells.drop off).take n).length = n ∧ (g = true ∨ n = 1)) (.val (joinC g ((cells.drop off).take n)) .no)
  | _, _, _ => .fail
 | none => .fail
def evIndexAddr (P : Program) (t : TypeId) (x i : AV) : Res := match i with
 | .tv (.int _ n) => match tElem P t with
  | some e => match tSz P e with
   | some sz => match x with
    | .tv (.sli sz' rows) => if sz = sz' then .need (0 ≤ n ∧ n < (rows.length : Int)) (.val (.tv (.ptr (rowAt rows n))) .no) else .fail
    | .tv .nils => .need (0 ≤ n ∧ n < (([] : List (List TV)).length : Int)) (.val (.tv (.ptr (rowAt [] n))) .no)
    | .sl id sz' off len => if sz = sz' then .need (0 ≤ n ∧ n < (len : Int)) (.val (.ptr id ((off + n.toNat) * sz)) .no) else .fail
    | _ => .fail
   | none => .fail
  | none => match tArr P t with
   | some (m, e) => match tSz P e, x with
    | some sz, .ptr id o => .need (0 ≤ n ∧ n < (m : Int)) (.val (.ptr id (o + n.toNat * sz)) .no)
    | _, _ => .fail
   | none => .fail
 | _ => .fail
def evIndex (P : Program) (t : TypeId) (x i : AV) : Res := match x, i with
 | .tv (.str s), .tv (.int _ n) => if tStr P t then .need (0 ≤ n ∧ n < (s.size : Int)) (vint .u8 (sbyte s n)) else .fail
 | _, _ => .fail
def evLookup (P : Program) (H : Hp) (t : TypeId) (x i : AV) (comma : Bool) : Res := match tMap P t with
 | some (k, e) => if tStr P k then match tZero P e, i with
  | some z, .tv (.str q) => match x with
   | .map id => match hget H id with
    | some (.smap es) => .val (bif comma then .tup [(sget es q).getD z, .tv (.bool (sget es q).isSome)] else (sget es q).getD z) .no
    | _ => .fail
   | _ => .fail
  | _, _ => .fail else .fail
 | none => .fail
def evMapUpdate (P : Program) (H : Hp) (t : TypeId) (x i v : AV) : Res := match tMap P t with
 | some (k, _) => if tStr P k then match x, i with
  | .map id, .tv (.str q) => match hget H id with
   | some (.smap es) => chk (v.one = true) (.val (.tup []) (.upd id (.smap (sput es q v))))
   | _ => .fail
  | _, _ => .fail else .fail
 | none => .fail
def evLen (P : Program) (H : Hp) (t : TypeId) (x : AV) : Res := match x with
 | .tv (.str s) => if tStr P t then vint .i64 (s.size : Int) else .fail
 | .tv (.sli _ rows) => match tElem P t with | some _ => vint .i64 (rows.length : Int) | none => .fail
 | .tv .nils => match tElem P t with | some _ => vint .i64 0 | none => .fail
 | .sl _ _ _ len => match tElem P t with | some _ => vint .i64 (len : Int) | none => .fail
 | .map id => match tMap P t, hget H id with
  | some _, some (.smap es) => vint .i64 (es.length : Int)
  | _, _ => .fail
 | _ => .fail
end Go.Proofs.YtphmhelkojdlaaaDoor
namespace Go.Proofs.YtphmhelkojdlaaaDoor
open Go.RowKit
set_option linter.unusedSimpArgs false
set_option linter.unusedVariables false
def tFn (P : Program) (f : FuncId) : Bool := match P.funcs[f]? with
 | some fn => !(fn.name == "runtime.NumGoroutine") && !fn.body.isNone
 | none => false

/-- What is known behind an operation that yields v: more may be known; the new block, if one was made, has the id that was set aside. -/
def After (B : Base) (w0 : World) (σ : Facts) (ι : Where) (H' : Hp) (id : Id) (v : AV) (u : Value) (w' : World) : Prop :=
 ∃ σ' ι', VR σ' ι' v u ∧ WR B w0 σ' ι' H' w' ∧ (∀ x y, σ x y → σ' x y) ∧ (∀ j y, ι j = some y → ι' j = some y) ∧ ∀ j, j ≠ id → ι' j = ι j
def Runs (P : Program) (s : Sem Next) (w : World) (u : Value) (w' : World) : Prop := s.run P w = .ok (.value u) w' ∨ (s.run P w = .ok .skip w' ∧ u = undef)
def Sat (P : Program) (s : Sem Next) (w : World) (B : Base) (w0 : World) (σ : Facts) (ι : Where) (H : Hp) (id : Id) : Res → Prop
 | .val v e => ∃ u w', Runs P s w u w' ∧ After B w0 σ ι (e.app H id) id v u w'
 | .need p r => p → Sat P s w B w0 σ ι H id r
 | .call f args => ∃ us, s.run P w = .ok (.enter f us.toArray) w ∧ VRs σ ι args us
 | .yld i args => ∃ us l n, ι i = some (some (l, n)) ∧ s.run P w = (Instr.yield l us.toArray).run P w ∧ VRs σ ι args us
 | .fail => True

section
variable {P : Program} {B : Base} {w0 w : World} {σ : Facts} {ι : Where} {H : Hp} {id : Id} {s : Sem Next}
theorem Sat.pure {v : AV} {u : Value} (h : WR B w0 σ ι H w) (hr : s.run P w = .ok (.value u) w) (hv : VR σ ι v u) : Sat P s w B w0 σ ι H id (.val v .no) :=
 ⟨u, w, .inl hr, σ, ι, hv, h, fun _ _ h => h, fun _ _ h => h, fun _ _ => rfl⟩

/-! ### Operands -/
def TRel (σ : Facts) (ι : Where) (T : Tm) (tmps : Array Value) : Prop := ∀ t, VR σ ι (tget T t) (tmps.getD t undef)
theorem ofV0_ok (v : Value) (h : ∀ s, v = .string s → s.size ≤ 1000000) : VR σ ι (ofV0 v) v := by
 unfold ofV0
 split <;> try exact .any _
 ·exact .tv (.bool _)
 ·exact .tv (.int _ _)
 ·rename_i x; refine .tv (.str _ ?_); have := h x rfl; omega
 ·exact .tv .nils
 ·exact .tv .nilp
 ·exact .tv .nilm
 ·exact .tv .nilf
 ·exact .tv .nili
theorem ofV_ok (v : Value) (h : litOk v = true) : VR σ ι (ofV v) v := by
 unfold ofV
 split
 ·rename_i cs
  have : (Value.agg cs) = .agg cs.toList.toArray := by simp
  rw [this]
  refine .agg _ _ (by simp) (fun j c u h1 h2 => ?_)
  simp only [List.getElem?_map] at h1
  rw [h2] at h1
  simp at h1; subst h1
  refine ofV0_ok u ?_
  simp only [litOk, List.all_eq_true] at h
  have := h u (List.mem_of_getElem? h2)
  intro s hs
  subst hs
  simpa using this
 ·exact ofV0_ok v (fun s hs => by subst hs; simpa [litOk] using h)
def opdOk : Operand → Bool
 | .const v => litOk v
 | _ => true
theorem evo_ok {T : Tm} {a : Act} (hT : TRel σ ι T a.tmps) (x : Operand) (hx : opdOk x = true) : VR σ ι (evo T x) (a.eval x) := by
 cases x with
 | tmp t => exact hT t
 | const v => exact ofV_ok v hx
 | global g => exact .any _
 | func f => exact .tv (.fn f)

/-! ### The types' facts, opened -/
theorem tSz_some {t : TypeId} {n : Nat} (h : tSz P t = some n) : ∃ i, P.info? t = some i ∧ i.size = n := by
 unfold tSz at h; cases hi : P.info? t with
 | none => rw [hi] at h; cases h
 | some i => rw [hi] at h; exact ⟨i, rfl, by simpa using h⟩
theorem tAgg_true {t : TypeId} (h : tAgg P t = some true) (w : World) : (isAgg t).run P w = .ok true w := by
 unfold tAgg at h
 split at h <;> first | cases h | skip
 ·rename_i fs hu; simp [isAgg, run_underlying hu]
 ·rename_i a b hu; simp [isAgg, run_underlying hu]
theorem tAgg_false {t : TypeId} (h : tAgg P t = some false) (w : World) : (isAgg t).run P w = .ok false w := by
 unfold tAgg at h
 split at h <;> first | cases h | skip
 rename_i d h1 h2 hu
 simp only [isAgg, Sem.run_bind, run_underlying hu, Result.andThen_ok]
 cases d <;> simp_all
theorem tAgg_run {t : TypeId} {g : Bool} (h : tAgg P t = some g) (w : World) : (isAgg t).run P w = .ok g w := by
 cases g
 ·exact tAgg_false h w
 ·exact tAgg_true h w
theorem run_sizeOf' {t : TypeId} {n : Nat} (h : tSz P t = some n) (w : World) : (sizeOf t).run P w = .ok n w := by
 obtain ⟨i, hi, rfl⟩ := tSz_some h
 simp [sizeOf, typeInfo, hi]
theorem tElem_some {t e : TypeId} (h : tElem P t = some e) : P.underlying t = some (.slice e) := by
 unfold tElem at h; split at h
 ·rename_i x hx; simp at h; subst h; exact hx
 ·cases h
theorem tArr_some {t e : TypeId} {n : Nat} (h : tArr P t = some (n, e)) : P.underlying t = some (.array n e) := by
 unfold tArr at h; split at h
 ·rename_i x y hx; simp at h; obtain ⟨rfl, rfl⟩ := h; exact hx
 ·cases h
theorem tMap_some {t k e : TypeId} (h : tMap P t = some (k, e)) : P.underlying t = some (.map k e) := by
 unfold tMap at h; split at h
 ·rename_i x y hx; simp at h; obtain ⟨rfl, rfl⟩ := h; exact hx
 ·cases h
theorem tFld_some {t : TypeId} {f off ft : Nat} (h : tFld P t f = some (off, ft)) : ∃ fs x, P.underlying t = some (.struct fs) ∧ fs[f]? = some x ∧ x.offset = off ∧ x.type = ft := by
 unfold tFld at h; split at h
 ·rename_i fs hx
  cases hf : fs[f]? with
  | none => rw [hf] at h; cases h
  | some x => rw [hf] at h; simp at h; exact ⟨fs, x, hx, hf, h.1, h.2⟩
 ·cases h
theorem tStr_true {t : TypeId} (h : tStr P t = true) : P.underlying t = some .string := by
 unfold tStr at h; split at h
 ·assumption
 ·cases h
theorem tBool_true {t : TypeId} (h : tBool P t = true) : P.underlying t = some .bool := by
 unfold tBool at h; split at h
 ·assumption
 ·cases h
theorem tZero_some {t : TypeId} {z : AV} (h : tZero P t = some z) : ∃ v, (∀ w, (zeroValue t).run P w = .ok v w) ∧ ∀ σ ι, VR σ ι z v := by
 unfold tZero at h
 cases hi : P.info? t with
 | none => rw [hi] at h; simp at h
 | some i =>
  rw [hi] at h
  simp only [Option.bind_some] at h
  cases hz : i.zero with
  | none => rw [hz] at h; simp at h
  | some v =>
   rw [hz] at h
   simp only at h
   split at h
   ·rename_i hl; simp at h; subst h
    exact ⟨v, fun w => by simp [zeroValue, typeInfo, hi, hz], fun σ ι => ofV_ok v hl⟩
   ·cases h
/-! ### Cells of a value -/
theorem VR.oneCell {v : AV} {u : Value} (h : VR σ ι v u) (h1 : v.one = true) : u.oneCell' = true ∧ u.cells = #[u] := by
 cases h <;> simp [AV.one] at h1
 case tv h => cases h <;> exact ⟨rfl, rfl⟩
 all_goals exact ⟨rfl, rfl⟩
theorem VR.cells {v : AV} {u : Value} {cs : List AV} (h : VR σ ι v u) (hc : v.cells = some cs) : ∃ us, u.cells = us.toArray ∧ VRs σ ι cs us := by
 cases h <;> simp [AV.cells] at hc
 case agg cs' us hl hv => subst hc; exact ⟨us, rfl, hl, hv⟩
 case tv t h => subst hc; exact ⟨[u], (by cases h <;> rfl), VRs.cons (.tv h) (VRs.nil _ _)⟩
 case ptr a b c d e => subst hc; exact ⟨_, rfl, VRs.cons (.ptr _ _ _ _ e) (VRs.nil _ _)⟩
 case sl id sz off len b n cap h hc' hn hm => subst hc; exact ⟨_, rfl, VRs.cons (.sl _ _ _ _ _ _ _ h hc' hn hm) (VRs.nil _ _)⟩
 case sl0 => subst hc; exact ⟨_, rfl, VRs.cons (.sl0 _ _ _ _) (VRs.nil _ _)⟩
 case map a b c e => subst hc; exact ⟨_, rfl, VRs.cons (.map _ _ _ e) (VRs.nil _ _)⟩
 case fn f cs' us hl hv => subst hc; exact ⟨_, rfl, VRs.cons (.fn _ _ _ hl hv) (VRs.nil _ _)⟩
 case iface t v u h => subst hc; exact ⟨_, rfl, VRs.cons (.iface _ _ _ h) (VRs.nil _ _)⟩
 case yl a b c e => subst hc; exact ⟨_, rfl, VRs.cons (.yl _ _ _ e) (VRs.nil _ _)⟩
theorem VRs.oneCells {cs : List AV} {us : List Value} (h : VRs σ ι cs us) (h1 : cs.all AV.one = true) : ∀ u ∈ us, u.oneCell' = true := by
 intro u hu
 obtain ⟨j, hj⟩ := List.mem_iff_getElem?.1 hu
 have hlt : j < cs.length := by
  have := (List.getElem?_eq_some_iff.1 hj).1
  have := h.1; omega
 have h2 := h.2 j cs[j] u (by simp [hlt]) hj
 rw [List.all_eq_true] at h1
 exact (h2.oneCell (h1 _ (List.getElem_mem hlt))).1

/-! ### Load -/
def LoadSat (P : Program) (t : TypeId) (ux : Value) (w : World) (σ : Facts) (ι : Where) : Res → Prop
 | .val v .no => ∃ u, (Instr.loadAt t ux).run P w = .ok u w ∧ VR σ ι v u
 | .fail => True
 | _ => False
theorem loadSat_chk {t : TypeId} {ux : Value} {c : Prop} [Decidable c] {r : Res} (h : c → LoadSat P t ux w σ ι r) : LoadSat P t ux w σ ι (chk c r) := by
 unfold chk
 split
 ·rename_i hc; exact h hc
 ·trivial
theorem sat_chk {c : Prop} [Decidable c] {r : Res} (h : c → Sat P s w B w0 σ ι H id r) : Sat P s w B w0 σ ι H id (chk c r) := by
 unfold chk
 split
 ·rename_i hc; exact h hc
 ·trivial
theorem load_ok {t : TypeId} {x : AV} {ux : Value} (h : WR B w0 σ ι H w) (hx : VR σ ι x ux) : LoadSat P t ux w σ ι (evLoad P H t x) := by
 unfold evLoad
 split
 ·rename_i g n hg hn
  -- the general law: n cells at an address
  have key : ∀ (a : Addr) (cs : List AV) (us : List Value), ux = .pointer (some a) → VRs σ ι cs us → cs.length = n → (g = true ∨ n = 1) →
    (∀ j u, us[j]? = some u → w.cell? (a.add j) = some u) →
    ∃ u, (Instr.loadAt t ux).run P w = .ok u w ∧ VR σ ι (joinC g cs) u := by
   intro a cs us hux hv hl hgn hc
   subst hux
   cases g with
   | true =>
    refine ⟨.agg us.toArray, ?_, ?_⟩
    ·have hl' : us.length = n := by rw [hv.1, hl]
     have := run_loadCells_list (P := P) w a us hc
     rw [hl'] at this
     simp [Instr.loadAt, Instr.sureAddr, loadVar, tAgg_run hg, run_sizeOf' hn, this]
    ·exact .agg _ _ hv.1 hv.2
   | false =>
    have h1 : n = 1 := by simpa using hgn
    subst h1
    match cs, us, hl, hv with
    | [c], us, _, hv =>
     obtain ⟨u, us', rfl, h1, h2⟩ := hv.cons_inv
     have := h2.nil_inv; subst this
     refine ⟨u, ?_, h1⟩
     have h0 := hc 0 u rfl
     simp only [Addr.add, if_true] at h0
     simp [Instr.loadAt, Instr.sureAddr, loadVar, tAgg_run hg, h0]
  split
  ·rename_i i off
   split
   ·rename_i cells ro hh
    refine loadSat_chk fun ⟨hl, hgn⟩ => ?_
    cases hx with
    | ptr _ _ b m hi =>
    have hex : ∃ us, VRs σ ι ((cells.drop off).take n) us ∧ ∀ j u, us[j]? = some u → w.cell? ((⟨b, off, none⟩ : Addr).add j) = some u := by
     have hc : ∀ j c, ((cells.drop off).take n)[j]? = some c → ∃ u, w.cell? ((⟨b, off, none⟩ : Addr).add j) = some u ∧ VR σ ι c u := by
      intro j c hj
      rw [List.getElem?_take] at hj
      split at hj
      ·rw [List.getElem?_drop] at hj
       obtain ⟨u, h1, h2, _⟩ := h.cell hh hi hj
       refine ⟨u, ?_, h2⟩
       rw [← h1]
       simp only [Addr.add]
       split
       ·rename_i e; subst e; simp
       ·rfl
      ·cases hj
     refine ⟨((List.range ((cells.drop off).take n).length).map fun j => (w.cell? ((⟨b, off, none⟩ : Addr).add j)).getD undef), ⟨by simp, ?_⟩, ?_⟩
     ·intro j c u h1 h2
      obtain ⟨u', h3, h4⟩ := hc j c h1
      simp only [List.getElem?_map] at h2
      have hlt := (List.getElem?_eq_some_iff.1 h1).1
      rw [List.getElem?_range hlt] at h2
      simp [h3] at h2; subst h2; exact h4
     ·intro j u h2
      simp only [List.getElem?_map] at h2
      by_cases hlt : j < ((cells.drop off).take n).length
      ·rw [List.getElem?_range hlt] at h2
       obtain ⟨u', h3, h4⟩ := hc j _ (List.getElem?_eq_getElem hlt)
       simp [h3] at h2; subst h2; exact h3
      ·rw [List.getElem?_eq_none (by simpa using hlt)] at h2; cases h2
    obtain ⟨us, hv, hc⟩ := hex
    obtain ⟨u, hr, hu⟩ := key _ _ _ rfl hv hl hgn hc
    exact ⟨u, hr, hu⟩
   ·trivial
  ·rename_i cells
   refine loadSat_chk fun ⟨hl, hgn⟩ => ?_
   cases hx with
   | tv hx =>
   cases hx with
   | ptr _ a us hv hs =>
   have hex : VRs σ ι ((cells.take n).map .tv) ((List.range (cells.take n).length).map us) := by
    refine ⟨by simp, fun j c u h1 h2 => ?_⟩
    simp only [List.getElem?_map] at h1 h2
    cases hj : (cells.take n)[j]? with
    | none => rw [hj] at h1; cases h1
    | some c' =>
     rw [hj] at h1
     have hlt := (List.getElem?_eq_some_iff.1 hj).1
     rw [List.getElem?_range hlt] at h2
     simp at h1 h2; subst h1 h2
     refine .tv (hv j c' ?_)
     rw [List.getElem?_take] at hj
     split at hj
     ·exact hj
     ·cases hj
   obtain ⟨u, hr, hu⟩ := key a _ _ rfl hex (by rw [List.length_map]; exact hl) hgn (fun j u h2 => by
    simp only [List.getElem?_map] at h2
    by_cases hlt : j < (cells.take n).length
    ·rw [List.getElem?_range hlt] at h2
     simp at h2; subst h2
     have hlt' : j < cells.length := by have := hlt; simp at this; omega
     exact h.sure _ _ (hs j _ (List.getElem?_eq_getElem hlt'))
    ·rw [List.getElem?_eq_none (by simpa using hlt)] at h2; cases h2)
   exact ⟨u, hr, hu⟩
  ·trivial
 ·trivial
theorem sat_load {t : TypeId} {x : AV} {ux : Value} (h : WR B w0 σ ι H w) (hx : VR σ ι x ux) (hs : s = (do pure (.value (← Instr.loadAt t ux)))) :
  Sat P s w B w0 σ ι H id (evLoad P H t x) := by
 subst hs
 have hl := load_ok (P := P) (t := t) h hx
 generalize evLoad P H t x = r at hl
 cases r with
 | val v e =>
  cases e with
  | no =>
   obtain ⟨u, hr, hu⟩ := hl
   exact Sat.pure h (by simp [hr]) hu
  | _ => exact hl.elim
 | fail => trivial
 | _ => exact hl.elim
end
end Go.Proofs.YtphmhelkojdlaaaDoor
namespace Go.Proofs.YtphmhelkojdlaaaDoor
open Go.RowKit
set_option linter.unusedSimpArgs false
set_option linter.unusedVariables false
section
variable {P : Program} {B : Base} {w0 w : World} {σ : Facts} {ι : Where} {H : Hp} {id : Id} {s : Sem Next}
theorem splice_get {α : Type} (cs news : List α) (off : Nat) (h : off + news.length ≤ cs.length) (j : Nat) :
  (cs.take off ++ news ++ cs.drop (off + news.length))[j]? = if j < off then cs[j]? else if j < off + news.length then news[j - off]? else cs[j]? := by
 by_cases h1 : j < off
 ·rw [if_pos h1, List.append_assoc, List.getElem?_append_left (by simp; omega), List.getElem?_take, if_pos h1]
 ·rw [if_neg h1, List.append_assoc, List.getElem?_append_right (by simp; omega)]
  have e : j - (cs.take off).length = j - off := by simp; omega
  rw [e]
  by_cases h2 : j < off + news.length
  ·rw [if_pos h2, List.getElem?_append_left (by omega)]
  ·rw [if_neg h2, List.getElem?_append_right (by omega), List.getElem?_drop]
   congr 1; omega
/-- Cells written into a row of one's own. -/
theorem WR.storeRow (h : WR B w0 σ ι H w) {i : Id} {cells : List AV} {b n off : Nat} (hh : hget H i = some (.row cells false)) (hi : ι i = some (some (b, n))) {cs : List AV} {us : List Value} (hv : VRs σ ι cs us)
  (hone : ∀ u ∈ us, u.oneCell' = true) (hoff : off + cs.length ≤ cells.length) :
  ∃ w', (storeCells ⟨b, off, none⟩ us).run P w = .ok () w' ∧ WR B w0 σ ι (hset H i (.row (splice cells off cs) false)) w' := by
 obtain ⟨_, obj, hw, arr, e, rfl, ha, hle, hc⟩ := h.obj _ _ _ _ hh hi
 have hl : us.length = cs.length := hv.1
 have hst := run_storeCells_at P b off e us 0 arr w hw (by omega) hone
 simp only [Nat.add_zero] at hst
 refine ⟨_, hst, h.write hh hi _ (setRow_heap w b arr _ e _ hw) ?_ (fun k hk => setRow_other w b k _ hk) (by simp) rfl rfl rfl ?_⟩
 ·refine ⟨_, e, rfl, ?_, ?_, ?_⟩
  ·simp; omega
  ·simp [splice]; omega
  ·intro j c hj
   simp only [splice] at hj
   rw [splice_get cells cs off hoff] at hj
   simp only [List.getElem?_toArray]
   rw [splice_get arr.toList us off (by simp; omega), hl]
   by_cases h1 : j < off
   ·rw [if_pos h1] at hj ⊢
    obtain ⟨u, hu, hvv⟩ := hc j c hj
    exact ⟨u, by simpa using hu, hvv⟩
   ·rw [if_neg h1] at hj ⊢
    by_cases h2 : j < off + cs.length
    ·rw [if_pos h2] at hj ⊢
     exact hv.get hj
    ·rw [if_neg h2] at hj ⊢
     obtain ⟨u, hu, hvv⟩ := hc j c hj
     exact ⟨u, by simpa using hu, hvv⟩
 ·intro a v hs hb
  obtain ⟨cs', he, _⟩ := h.stab a v hs i _ b n hh hi hb
  cases he
theorem sat_store {t : TypeId} {x v : AV} {ux uv : Value} (h : WR B w0 σ ι H w) (hx : VR σ ι x ux) (hv : VR σ ι v uv) (hs : s = (do Instr.storeAt t ux uv; pure .skip)) :
  Sat P s w B w0 σ ι H id (evStore P H t x v) := by
 subst hs
 unfold evStore
 split
 ·rename_i n i off cs hn hc
  split
  ·rename_i cells hh
   refine sat_chk fun ⟨hl, hone, hoff⟩ => ?_
   cases hx with
   | ptr _ _ b m hi =>
   obtain ⟨us, hu, hvs⟩ := hv.cells hc
   obtain ⟨w', hst, hw'⟩ := h.storeRow (P := P) (off := off) hh hi hvs (hvs.oneCells hone) (by omega)
   refine ⟨undef, w', .inr ⟨?_, rfl⟩, σ, ι, ?_, hw', fun _ _ h => h, fun _ _ h => h, fun _ _ => rfl⟩
   ·have hul : us.length = n := by rw [hvs.1, hl]
    simp [Instr.storeAt, Instr.sureAddr, storeVar, hul, run_sizeOf' hn, hu, hst]
   ·exact .tup [] [] rfl (fun j c u h _ => by simp at h)
  ·trivial
 ·trivial

/-- A new variable that holds the cells of a value. -/
theorem WR.newRow (h : WR B w0 σ ι H w) (hid : ι id = none) {cs : List AV} {us : List Value} (hv : VRs σ ι cs us) (e : TypeId) :
  WR B w0 σ (wput ι id (some (w.heap.size, cs.length))) ((id, .row cs false) :: H) (w.alloc (.cells us.toArray e)) :=
 h.new id hid _ _ _ ⟨us.toArray, e, rfl, by simp [hv.1], Nat.le_refl _, fun j c hj => by
  obtain ⟨u, hu, hvv⟩ := hv.get hj
  exact ⟨u, by simpa using hu, hvv.mono (fun _ _ h => h) (wput_le hid)⟩⟩
theorem wput_at {ι : Where} {id : Id} {x : Option (Nat × Nat)} : wput ι id x id = some x := by unfold wput; rw [if_pos rfl]
theorem wput_ne {ι : Where} {id : Id} {x : Option (Nat × Nat)} (j : Id) (h : j ≠ id) : wput ι id x j = ι j := by unfold wput; rw [if_neg h]
theorem sat_new {t : TypeId} {v : AV} {uv : Value} (h : WR B w0 σ ι H w) (hid : ι id = none) (hv : VR σ ι v uv)
  (hs : s.run P w = .ok (.value (.pointer (some ⟨w.heap.size, 0, none⟩))) (w.alloc (.cells uv.cells t))) :
  Sat P s w B w0 σ ι H id (evNew id v) := by
 unfold evNew
 split
 ·rename_i cs hc
  refine sat_chk fun hone => ?_
  obtain ⟨us, hu, hvs⟩ := hv.cells hc
  rw [hu] at hs
  exact ⟨_, _, .inl hs, σ, _, .ptr id 0 _ _ wput_at, h.newRow hid hvs t, fun _ _ h => h, wput_le hid, fun j hj => wput_ne j hj⟩
 ·trivial

/-! ### Fields and elements -/
theorem TR.drop {cells : List TV} {a : Addr} {off : Nat} (h : TR σ (.ptr cells) (.pointer (some a))) : TR σ (.ptr (cells.drop off)) (.pointer (some (a.add off))) := by
 cases h with
 | ptr _ _ us hv hs =>
 refine .ptr _ _ (fun j => us (off + j)) (fun j c hj => ?_) (fun j c hj => ?_)
 ·rw [List.getElem?_drop] at hj; exact hv _ c hj
 ·rw [List.getElem?_drop] at hj
  have := hs _ c hj
  have e : (a.add off).add j = a.add (off + j) := by
   unfold Addr.add
   by_cases h0 : off = 0
   ·subst h0; simp
   ·by_cases hj0 : j = 0
    ·subst hj0; simp
    ·have : off + j ≠ 0 := by omega
     simp [h0, hj0, Nat.add_assoc]
  rw [e]; exact this
theorem add_none (b o n : Nat) : (⟨b, o, none⟩ : Addr).add n = ⟨b, o + n, none⟩ := by
 unfold Addr.add; split
 ·rename_i h; subst h; rfl
 ·rfl
theorem sat_field {t : TypeId} {f : Nat} {x : AV} {ux : Value} (h : WR B w0 σ ι H w) (hx : VR σ ι x ux) (hs : s = (do pure (.value (← Instr.fieldAt t ux f)))) :
  Sat P s w B w0 σ ι H id (evField P t x f) := by
 subst hs
 unfold evField
 split
 ·rename_i off ft hf
  split
  ·rename_i n hn
   obtain ⟨fs, fd, hu, hfs, rfl, rfl⟩ := tFld_some hf
   have hplace : ∀ a : Addr, (do pure (Next.value (← Instr.fieldAt t (.pointer (some a)) f)) : Sem Next).run P w = .ok (.value (.pointer (some (a.add fd.offset)))) w := by
    intro a
    simp [Instr.fieldAt, run_underlying hu, hfs, Instr.sureAddr, fieldPlace, run_sizeOf' hn]
   split
   ·rename_i i o
    cases hx with
    | ptr _ _ b m hi =>
    have := hplace ⟨b, o, none⟩
    rw [add_none] at this
    exact Sat.pure h this (.ptr _ _ _ _ hi)
   ·rename_i cells
    cases hx with
    | tv hx =>
    have hx' := hx
    cases hx' with
    | ptr _ a us hv hs' => exact Sat.pure h (hplace a) (.tv hx.drop)
   ·trivial
  ·trivial
 ·trivial
theorem sat_fieldV {t : TypeId} {f : Nat} {x : AV} {ux : Value} (h : WR B w0 σ ι H w) (hx : VR σ ι x ux) (hs : s = (do pure (.value (← Instr.field t ux f)))) :
  Sat P s w B w0 σ ι H id (evFieldV P t x f) := by
 subst hs
 unfold evFieldV
 split
 ·rename_i off ft hf
  obtain ⟨fs, fd, hu, hfs, rfl, rfl⟩ := tFld_some hf
  split
  ·rename_i n g cells hn hg
   refine sat_chk fun ⟨hl, hgn⟩ => ?_
   cases hx with
   | agg _ us hl' hv =>
   have hvs : VRs σ ι ((cells.drop fd.offset).take n) ((us.drop fd.offset).take n) := (VRs.drop ⟨hl', hv⟩ _).take _
   cases g with
   | true =>
    refine Sat.pure h (u := .agg ((us.drop fd.offset).take n).toArray) ?_ (.agg _ _ hvs.1 hvs.2)
    have e : us.toArray.extract fd.offset (fd.offset + n) = ((us.drop fd.offset).take n).toArray := by
     apply Array.toList_inj.1
     simp
    simp [Instr.field, run_underlying hu, hfs, asAgg, part, tAgg_run hg, run_sizeOf' hn, e]
   | false =>
    have h1 : n = 1 := by simpa using hgn
    subst h1
    cases hcs : (cells.drop fd.offset).take 1 with
    | nil => rw [hcs] at hl; simp at hl
    | cons c r =>
     rw [hcs] at hvs hl
     have hr : r = [] := by simpa using hl
     subst hr
     obtain ⟨u, us', he, h1, h2⟩ := hvs.cons_inv
     have hu0 : us[fd.offset]? = some u := by
      have : ((us.drop fd.offset).take 1)[0]? = some u := by rw [he]; rfl
      rw [List.getElem?_take] at this
      simpa using this
     refine Sat.pure h (u := u) ?_ h1
     simp [Instr.field, run_underlying hu, hfs, asAgg, part, tAgg_run hg, hu0]
  ·trivial
 ·trivial
theorem sat_indexAddr {t : TypeId} {x i : AV} {ux ui : Value} (h : WR B w0 σ ι H w) (hx : VR σ ι x ux) (hi : VR σ ι i ui) (hs : s = (do pure (.value (← Instr.indexAt t ux ui)))) :
  Sat P s w B w0 σ ι H id (evIndexAddr P t x i) := by
 subst hs
 unfold evIndexAddr
 split
 ·rename_i k n
  cases hi with
  | tv hi =>
  cases hi
  split
  ·rename_i e he
   have hu := tElem_some he
   split
   ·rename_i sz hsz
    have hrun : ∀ (a : Addr) (len cap : Nat), 0 ≤ n → n < (len : Int) →
      (do pure (Next.value (← Instr.indexAt t (.slice (some a) len cap) (.int k n))) : Sem Next).run P w = .ok (.value (.pointer (some (a.add (n.toNat * sz))))) w := by
     intro a len cap h0 h1
     simp [Instr.indexAt, asIntOf, run_underlying hu, h0, h1, run_sizeOf' hsz]
    split
    ·rename_i sz' rows
     split
     ·rename_i e1; subst e1
      intro ⟨h0, h1⟩
      cases hx with
      | tv hx =>
      cases hx with
      | sli _ _ A cap us hc hm hA hz hv hs' =>
      have hlt : n.toNat < rows.length := by omega
      cases A with
      | none => have := hA rfl; subst this; simp at hlt
      | some a =>
       refine Sat.pure h (hrun a _ _ h0 h1) (.tv (.ptr _ _ (us n.toNat) (fun j c hj => ?_) (fun j c hj => ?_)))
       ·unfold rowAt at hj
        rw [List.getD_eq_getElem?_getD, List.getElem?_eq_getElem hlt] at hj
        exact hv n.toNat j _ c (List.getElem?_eq_getElem hlt) hj
       ·unfold rowAt at hj
        rw [List.getD_eq_getElem?_getD, List.getElem?_eq_getElem hlt] at hj
        have := hs' a n.toNat j _ c rfl (List.getElem?_eq_getElem hlt) hj
        have e2 : (a.add (n.toNat * sz)).add j = a.add (n.toNat * sz + j) := by
         unfold Addr.add
         by_cases h0 : n.toNat * sz = 0
         ·simp [h0]
         ·by_cases hj0 : j = 0
          ·subst hj0; simp
          ·have : n.toNat * sz + j ≠ 0 := by omega
           simp [h0, hj0, Nat.add_assoc]
        rw [e2]; exact this
     ·trivial
    ·intro ⟨h0, h1⟩
     simp at h1; omega
    ·rename_i id' sz' off len
     split
     ·rename_i e1; subst e1
      intro ⟨h0, h1⟩
      cases hx with
      | sl _ _ _ _ b m cap hid hc hn hm =>
       have := hrun ⟨b, off * sz, none⟩ len cap h0 h1
       rw [add_none, ← Nat.add_mul] at this
       exact Sat.pure h this (.ptr _ _ _ _ hid)
      | sl0 => exfalso; have : (0 : Int) ≤ n := h0; have : n < ((0 : Nat) : Int) := h1; omega
     ·trivial
    ·trivial
   ·trivial
  ·rename_i he
   split
   ·rename_i m e harr
    have hu := tArr_some harr
    split
    ·rename_i sz id' o hsz
     intro ⟨h0, h1⟩
     cases hx with
     | ptr _ _ b nn hid =>
     refine Sat.pure h (u := .pointer (some ⟨b, o + n.toNat * sz, none⟩)) ?_ (.ptr _ _ _ _ hid)
     have e3 := add_none b o (n.toNat * sz)
     simp [Instr.indexAt, asIntOf, run_underlying hu, Instr.sureAddr, h0, h1, run_sizeOf' hsz, e3]
    ·trivial
   ·trivial
 ·trivial
theorem sat_index {t : TypeId} {x i : AV} {ux ui : Value} (h : WR B w0 σ ι H w) (hx : VR σ ι x ux) (hi : VR σ ι i ui) (hs : s = (do pure (.value (← Instr.index t ux ui)))) :
  Sat P s w B w0 σ ι H id (evIndex P t x i) := by
 subst hs
 unfold evIndex
 split
 ·rename_i st k n
  split
  ·rename_i ht
   intro ⟨h0, h1⟩
   cases hi with
   | tv hi =>
   cases hi
   cases hx with
   | tv hx =>
   cases hx
   have hlt : n.toNat < st.size := by omega
   refine Sat.pure h (u := .int .u8 (sbyte st n)) ?_ (.tv (.int _ _))
   have e1 : st[n.toNat]? = some (st[n.toNat]'hlt) := by simp [hlt]
   have e2 : sbyte st n = (((st[n.toNat]'hlt).toNat : Nat) : Int) := by
    unfold sbyte
    have : n.toNat < st.data.toList.length := by simpa using hlt
    rw [List.getD_eq_getElem?_getD, List.getElem?_eq_getElem this]
    rfl
   simp [Instr.index, asIntOf, run_underlying (tStr_true ht), h0, e1, e2]
  ·trivial
 ·trivial
end
end Go.Proofs.YtphmhelkojdlaaaDoor
namespace Go.Proofs.YtphmhelkojdlaaaDoor
open Go.RowKit
set_option linter.unusedSimpArgs false
set_option linter.unusedVariables false
section
variable {P : Program} {B : Base} {w0 w : World} {σ : Facts} {ι : Where} {H : Hp} {id : Id} {s : Sem Next}
/-- The entries of a machine's map are these. -/
def Ents (σ : Facts) (ι : Where) (es : List (ByteArray × AV)) (l : List MapEntry) : Prop :=
 l.length = es.length ∧ ∀ (j : Nat) (k : ByteArray) (v : AV), es[j]? = some (k, v) → ∃ e, l[j]? = some e ∧ e.key = .string k ∧ VR σ ι v e.val
theorem Ents.nil : Ents σ ι [] [] := ⟨rfl, fun j k v h => by simp at h⟩
theorem Ents.cons_inv {p : ByteArray × AV} {es : List (ByteArray × AV)} {l : List MapEntry} (h : Ents σ ι (p :: es) l) : ∃ e r, l = e :: r ∧ e.key = .string p.1 ∧ VR σ ι p.2 e.val ∧ Ents σ ι es r := by
 obtain ⟨hl, hv⟩ := h
 cases l with
 | nil => simp at hl
 | cons e r =>
  obtain ⟨e', h1, h2, h3⟩ := hv 0 p.1 p.2 rfl
  simp at h1; subst h1
  exact ⟨e, r, rfl, h2, h3, by simpa using hl, fun j k v hj => by
   obtain ⟨e'', h4, h5⟩ := hv (j + 1) k v (by simpa using hj)
   exact ⟨e'', by simpa using h4, h5⟩⟩
theorem Ents.cons {p : ByteArray × AV} {es : List (ByteArray × AV)} {e : MapEntry} {r : List MapEntry} (h1 : e.key = .string p.1) (h2 : VR σ ι p.2 e.val) (h : Ents σ ι es r) : Ents σ ι (p :: es) (e :: r) := by
 refine ⟨by simp [h.1], fun j k v hj => ?_⟩
 cases j with
 | zero => simp at hj; subst hj; exact ⟨e, rfl, h1, h2⟩
 | succ j => simp at hj; obtain ⟨e', h3, h4⟩ := h.2 j k v hj; exact ⟨e', by simpa using h3, h4⟩
theorem sat_run {v : AV} {u : Value} {e : Sem Value} (h : WR B w0 σ ι H w) (hv : VR σ ι v u) (hr : e.run P w = .ok u w) : Sat P (do pure (Next.value (← e)) : Sem Next) w B w0 σ ι H id (.val v .no) :=
 Sat.pure h (by simp [hr]) hv
theorem ba_beq (a b : ByteArray) : (a == b) = decide (a = b) := by
 by_cases h : a = b
 ·rw [(Go.MapKept.bytes_beq a b).2 h]; simp [h]
 ·cases hb : (a == b) with
  | false => simp [h]
  | true => exact absurd ((Go.MapKept.bytes_beq a b).1 hb) h
theorem find_ok (q : ByteArray) : ∀ (es : List (ByteArray × AV)) (l : List MapEntry) (i0 : Nat), Ents σ ι es l →
  (∃ j v e, sget es q = some v ∧ l[j]? = some e ∧ e.key = .string q ∧ Instr.findNow .string (.string q) l i0 = some (some (i0 + j, e.val)) ∧ VR σ ι v e.val ∧ ∀ x, sput es q x = es.set j (q, x)) ∨
  (sget es q = none ∧ Instr.findNow .string (.string q) l i0 = some none ∧ ∀ x, sput es q x = es ++ [(q, x)]) := by
 intro es
 induction es with
 | nil =>
  intro l i0 h
  have : l = [] := by simpa using h.1
  subst this
  exact .inr ⟨rfl, rfl, fun x => rfl⟩
 | cons p es ih =>
  intro l i0 h
  obtain ⟨e, r, rfl, hk, hv, hr⟩ := h.cons_inv
  obtain ⟨k, v⟩ := p
  simp only [] at hk hv
  by_cases hq : k = q
  ·subst hq
   refine .inl ⟨0, v, e, by simp [sget], rfl, hk, ?_, hv, fun x => by simp [sput]⟩
   simp [Instr.findNow, hk, Instr.sameNow, ba_beq]
  ·have hb : (q == k) = false := by rw [ba_beq]; simp; exact fun e => hq e.symm
   rcases ih r (i0 + 1) hr with ⟨j, v', e', h1, h2, h3, h4, h5, h6⟩ | ⟨h1, h2, h3⟩
   ·refine .inl ⟨j + 1, v', e', by simp [sget, hq, h1], by simpa using h2, h3, ?_, h5, fun x => by simp [sput, hq, h6 x]⟩
    have : i0 + (j + 1) = i0 + 1 + j := by omega
    simp [Instr.findNow, hk, Instr.sameNow, hb, h4, this]
   ·refine .inr ⟨by simp [sget, hq, h1], ?_, fun x => by simp [sput, hq, h3 x]⟩
    simp [Instr.findNow, hk, Instr.sameNow, hb, h2]
theorem run_checkKey {k : TypeId} (huk : P.underlying k = some .string) (em : Bool) (n : Nat) (q : ByteArray) (w : World) : (Instr.checkKey em (n + 1) k (.string q)).run P w = .ok () w := by
 simp [Instr.checkKey, run_underlying huk]
theorem sat_lookup {t : TypeId} {x i : AV} {ux ui : Value} {comma : Bool} (h : WR B w0 σ ι H w) (hx : VR σ ι x ux) (hi : VR σ ι i ui) (hs : s = (do pure (.value (← Instr.lookup t ux ui comma)))) :
  Sat P s w B w0 σ ι H id (evLookup P H t x i comma) := by
 subst hs
 unfold evLookup
 split
 ·rename_i k e hm
  have hu := tMap_some hm
  split
  ·rename_i hk
   have huk := tStr_true hk
   split
   ·rename_i z q hz
    obtain ⟨zv, hzr, hzv⟩ := tZero_some hz
    cases hi with
    | tv hi =>
    cases hi
    split
    ·rename_i mid
     split
     ·rename_i es hh
      cases hx with
      | map _ b n hid =>
      obtain ⟨_, obj, hw, arr, clock, rfl, ha, hes⟩ := h.obj _ _ _ _ hh hid
      have hE : Ents σ ι es arr.toList := ⟨by simpa using ha, fun j k v hj => by
       obtain ⟨e', h1, h2⟩ := hes j k v hj
       exact ⟨e', by simpa using h1, h2⟩⟩
      have hgetR : (getObj b).run P w = .ok (.map arr clock) w := by simp [getObj, Sem.run, hw]
      have hck : ∀ em, (Instr.checkKey em 10000 k (.string q)).run P w = .ok () w := by
       intro em; exact run_checkKey huk em 9999 q w
      rcases find_ok (σ := σ) (ι := ι) q es arr.toList 0 hE with ⟨j, v, e', h1, h2, h3, h4, h5, _⟩ | ⟨h1, h2, _⟩
      ·have hr : (do pure (Next.value (← Instr.lookup t (.map (some b)) (.string q) comma)) : Sem Next).run P w = .ok (.value (if comma then .tuple #[e'.val, .bool true] else e'.val)) w := by
        simp [Instr.lookup, run_underlying hu, hgetR, hck, Instr.findKey, run_underlying huk, h4]
       cases comma with
       | true => exact Sat.pure h hr (by rw [h1]; exact .tup [_, _] [_, _] rfl (VRs.cons h5 (VRs.cons (.tv (.bool _)) (VRs.nil _ _))).2)
       | false => exact Sat.pure h hr (by rw [h1]; exact h5)
      ·have hr : (do pure (Next.value (← Instr.lookup t (.map (some b)) (.string q) comma)) : Sem Next).run P w = .ok (.value (if comma then .tuple #[zv, .bool false] else zv)) w := by
        simp [Instr.lookup, run_underlying hu, hgetR, hck, Instr.findKey, run_underlying huk, h2, hzr]
       cases comma with
       | true => exact Sat.pure h hr (by rw [h1]; exact .tup [_, _] [_, _] rfl (VRs.cons (hzv _ _) (VRs.cons (.tv (.bool _)) (VRs.nil _ _))).2)
       | false => exact Sat.pure h hr (by rw [h1]; exact hzv _ _)
     ·trivial
    ·trivial
   ·trivial
  ·trivial
 ·trivial
theorem sat_mapUpdate {t : TypeId} {x i v : AV} {ux ui uv : Value} (h : WR B w0 σ ι H w) (hx : VR σ ι x ux) (hi : VR σ ι i ui) (hv : VR σ ι v uv) (hs : s = (do Instr.mapUpdate t ux ui uv; pure .skip)) :
  Sat P s w B w0 σ ι H id (evMapUpdate P H t x i v) := by
 subst hs
 unfold evMapUpdate
 split
 ·rename_i k e hm
  have hu := tMap_some hm
  split
  ·rename_i hk
   have huk := tStr_true hk
   split
   ·rename_i mid q
    cases hi with
    | tv hi =>
    cases hi
    split
    ·rename_i es hh
     refine sat_chk fun hone => ?_
     cases hx with
     | map _ b n hid =>
     obtain ⟨_, obj, hw, arr, clock, rfl, ha, hes⟩ := h.obj _ _ _ _ hh hid
     have hlt : b < w.heap.size := (Array.getElem?_eq_some_iff.1 hw).1
     have hE : Ents σ ι es arr.toList := ⟨by simpa using ha, fun j k v hj => by
      obtain ⟨e', h1, h2⟩ := hes j k v hj
      exact ⟨e', by simpa using h1, h2⟩⟩
     have hgetR : (getObj b).run P w = .ok (.map arr clock) w := by simp [getObj, Sem.run, hw]
     have hck : ∀ em, (Instr.checkKey em 10000 k (.string q)).run P w = .ok () w := by
      intro em; exact run_checkKey huk em 9999 q w
     have hsetR : ∀ o, (setObj b o).run P w = .ok () { w with heap := w.heap.setIfInBounds b o } := by
      intro o; simp [setObj, Sem.run, hw]
     -- whatever map is laid in the block's place
     have fin : ∀ (arr' : Array MapEntry) (clock' : Nat), Ents σ ι (sput es q v) arr'.toList →
       WR B w0 σ ι (hset H mid (.smap (sput es q v))) { w with heap := w.heap.setIfInBounds b (.map arr' clock') } := by
      intro arr' clock' hE'
      refine h.write hh hid _ (x := .map arr' clock') (by simp [hlt]) ⟨arr', clock', rfl, by simpa using hE'.1, fun j k v hj => by
       obtain ⟨e', h1, h2⟩ := hE'.2 j k v hj
       exact ⟨e', by simpa using h1, h2⟩⟩ (fun k hk => by simp [Array.getElem?_setIfInBounds_ne (Ne.symm hk)]) (by simp) rfl rfl rfl ?_
      intro a y hs hb
      obtain ⟨cs', he, _⟩ := h.stab a y hs mid _ b n hh hid hb
      cases he
     rcases find_ok (σ := σ) (ι := ι) q es arr.toList 0 hE with ⟨j, v', e', h1, h2, h3, h4, h5, h6⟩ | ⟨h1, h2, h3⟩
     ·have hj : j < arr.size := by have := (List.getElem?_eq_some_iff.1 h2).1; simpa using this
      have hje : arr[j]? = some e' := by simpa using h2
      have hr : (do Instr.mapUpdate t (.map (some b)) (.string q) uv; pure .skip : Sem Next).run P w =
        .ok .skip { w with heap := w.heap.setIfInBounds b (.map (arr.modify j fun e => { e with key := .string q, val := uv }) clock) } := by
       simp [Instr.mapUpdate, run_underlying hu, hgetR, hck, Instr.findKey, run_underlying huk, h4, hje, h3, Instr.keyThatStays, Instr.sameBits, ba_beq, hsetR]
      refine ⟨undef, _, .inr ⟨hr, rfl⟩, σ, ι, .tup [] [] rfl (fun j c u h _ => by simp at h), fin _ _ ?_, fun _ _ h => h, fun _ _ h => h, fun _ _ => rfl⟩
      rw [h6 v]
      refine ⟨by simp; omega, fun j' k' x' hj' => ?_⟩
      simp only [Array.getElem?_toList, Array.getElem?_modify]
      rw [List.getElem?_set] at hj'
      by_cases e : j = j'
      ·subst e
       rw [if_pos rfl] at hj'
       split at hj'
       ·cases hj'; rw [if_pos rfl, hje]; exact ⟨_, rfl, rfl, hv⟩
       ·cases hj'
      ·rw [if_neg e] at hj' ⊢
       exact hes j' k' x' hj'
     ·have hr : (do Instr.mapUpdate t (.map (some b)) (.string q) uv; pure .skip : Sem Next).run P w =
        .ok .skip { w with heap := w.heap.setIfInBounds b (.map (arr.push { key := .string q, val := uv, born := clock }) (clock + 1)) } := by
       simp [Instr.mapUpdate, run_underlying hu, hgetR, hck, Instr.findKey, run_underlying huk, h2, hsetR]
      refine ⟨undef, _, .inr ⟨hr, rfl⟩, σ, ι, .tup [] [] rfl (fun j c u h _ => by simp at h), fin _ _ ?_, fun _ _ h => h, fun _ _ h => h, fun _ _ => rfl⟩
      rw [h3 v]
      refine ⟨by simp; exact ha, fun j' k' x' hj' => ?_⟩
      simp only [Array.getElem?_toList, Array.getElem?_push]
      rw [List.getElem?_append] at hj'
      split at hj'
      ·rename_i hlt'
       rw [if_neg (by omega)]
       exact hes j' k' x' hj'
      ·rename_i hge
       have hj0 : j' - es.length = 0 := by
        have := (List.getElem?_eq_some_iff.1 hj').1
        simp at this; omega
       rw [hj0] at hj'
       simp at hj'
       obtain ⟨rfl, rfl⟩ := hj'
       rw [if_pos (by omega)]
       exact ⟨_, rfl, rfl, hv⟩
    ·trivial
   ·trivial
  ·trivial
 ·trivial
theorem sat_makeMap {t : TypeId} (h : WR B w0 σ ι H w) (hid : ι id = none) (hs : s = (do pure (.value (← Instr.makeMap t none)))) :
  Sat P s w B w0 σ ι H id (.val (.map id) (.new (.smap []))) := by
 subst hs
 refine ⟨.map (some w.heap.size), w.alloc (.map #[] 0), .inl rfl, σ, _, .map id _ 0 wput_at, h.new id hid _ 0 _ ?_, fun _ _ h => h, wput_le hid, fun j hj => wput_ne j hj⟩
 exact ⟨#[], 0, rfl, rfl, fun j k v hj => by simp at hj⟩
theorem sat_len {t ty : TypeId} {x : AV} {ux : Value} (h : WR B w0 σ ι H w) (hx : VR σ ι x ux) (hs : s = (do pure (.value (← Builtin.len_ #[t] ty #[ux])))) :
  Sat P s w B w0 σ ι H id (evLen P H t x) := by
 subst hs
 unfold evLen
 split
 ·rename_i st
  split
  ·rename_i ht
   cases hx with
   | tv hx => cases hx; exact sat_run h (.tv (.int _ _)) (by simp [Builtin.len_, run_underlying (tStr_true ht), goInt])
  ·trivial
 ·rename_i sz rows
  split
  ·rename_i e he
   cases hx with
   | tv hx => cases hx; exact sat_run h (.tv (.int _ _)) (by simp [Builtin.len_, run_underlying (tElem_some he), goInt])
  ·trivial
 ·split
  ·rename_i e he
   cases hx with
   | tv hx => cases hx; exact sat_run h (.tv (.int _ _)) (by simp [Builtin.len_, run_underlying (tElem_some he), goInt])
  ·trivial
 ·rename_i i sz off len
  split
  ·rename_i e he
   cases hx with
   | sl => exact sat_run h (.tv (.int _ _)) (by simp [Builtin.len_, run_underlying (tElem_some he), goInt])
   | sl0 => exact sat_run h (.tv (.int _ _)) (by simp [Builtin.len_, run_underlying (tElem_some he), goInt])
  ·trivial
 ·rename_i mid
  split
  ·rename_i km es hm hh
   cases hx with
   | map _ b n hid =>
   obtain ⟨_, obj, hw, arr, clock, rfl, ha, hes⟩ := h.obj _ _ _ _ hh hid
   have hgetR : (getObj b).run P w = .ok (.map arr clock) w := by simp [getObj, Sem.run, hw]
   obtain ⟨k, e⟩ := km
   exact Sat.pure h (u := .int .i64 (es.length : Int)) (by simp [Builtin.len_, run_underlying (tMap_some hm), hgetR, goInt, ha]) (.tv (.int _ _))
  ·trivial
 ·trivial

/-! ### Operators -/
theorem byteArray_list_eq (a b : ByteArray) : (a.toList == b.toList) = decide (a = b) := by
 rw [ByteArray.toList_eq, ByteArray.toList_eq]
 by_cases h : a = b
 ·subst h; simp
 ·simp only [h, decide_false]
  rw [beq_eq_false_iff_ne]
  intro e
  exact h (by cases a; cases b; simp at e; simp [e])
theorem run_equalIn_slice_nil (w : World) (d : Nat) (t e : TypeId) (a : Option Addr) (l c : Nat) (h : P.underlying t = some (.slice e)) : (Op.equalIn (d + 1) t (.slice a l c) (.slice none 0 0)).run P w = .ok a.isNone w := by
 cases a <;> simp [Op.equalIn, run_underlying h]
theorem run_equal_slice_nil (w : World) (t e : TypeId) (a : Option Addr) (l c : Nat) (h : P.underlying t = some (.slice e)) : (Op.equal t (.slice a l c) (.slice none 0 0)).run P w = .ok a.isNone w := run_equalIn_slice_nil w 9999 t e a l c h
theorem sat_bin {op : BinOp} {t : TypeId} {x y : AV} {ux uy : Value} {ox oy : Operand} (h : WR B w0 σ ι H w) (hx : VR σ ι x ux) (hy : VR σ ι y uy)
  (hs : s = (do pure (.value (← (do eqGuard op t ox oy ux uy; binOp op t ux uy))))) :
  Sat P s w B w0 σ ι H id (evBin P op t x y) := by
 subst hs
 unfold evBin
 split
 ·rename_i k a k' b
  cases hx with
  | tv hx =>
  cases hy with
  | tv hy =>
  cases hx; cases hy
  have hg0 : (eqGuard op t ox oy (.int k a) (.int k' b)).run P w = .ok () w := by
   unfold eqGuard; split <;> simp
  have hg' : ∀ (p : Sem Value), (do eqGuard op t ox oy (.int k a) (.int k' b); p).run P w = p.run P w := by
   intro p; simp [hg0]
  have hg : ∀ (p : Sem Value), (do pure (Next.value (← (do eqGuard op t ox oy (.int k a) (.int k' b); p))) : Sem Next).run P w = (do pure (Next.value (← p)) : Sem Next).run P w := by
   intro p; simp [hg0]
  split
  ·intro h0
   refine Sat.pure h (u := .int k (k.wrap (a * 2 ^ (min b.toNat k.bits)))) ?_ (.tv (.int _ _))
   rw [hg]; simp [binOp, Op.shift, h0]
   intro h1; omega
  ·intro h0
   refine Sat.pure h (u := .int k (a.fdiv (2 ^ (min b.toNat k.bits)))) ?_ (.tv (.int _ _))
   rw [hg]; simp [binOp, Op.shift]
   intro h1; omega
  ·split
   ·rename_i hn1 hn2 hk; subst hk
    unfold evInt
    split <;> first
     | trivial
     | exact sat_run h (.tv (.int _ _)) (by rw [hg']; simp [binOp, Op.intArith, Op.intBits])
     | exact sat_run h (.tv (.bool _)) (by rw [hg']; simp [binOp, Op.intCmp]; try (by_cases hab : a = b <;> simp [hab]))
     | (intro hb; exact sat_run h (.tv (.int _ _)) (by rw [hg']; simp [binOp, Op.intDiv, hb]))
   ·trivial
 ·rename_i a b
  cases hx with
  | tv hx =>
  cases hy with
  | tv hy =>
  cases hx; cases hy
  have hg : ∀ (p : Sem Value), (do pure (Next.value (← (do eqGuard op t ox oy (.string a) (.string b); p))) : Sem Next).run P w = (do pure (Next.value (← p)) : Sem Next).run P w := by
   intro p
   have : (eqGuard op t ox oy (.string a) (.string b)).run P w = .ok () w := by
    unfold eqGuard; split <;> simp
   simp [this]
  unfold evStr
  split
  ·intro hsz
   refine Sat.pure h (u := .string (a ++ b)) ?_ (.tv (.str _ (by simp; omega)))
   rw [hg]
   have := run_string_add_sum (P := P) (w := w) a b hsz
   simp [binOp, this]
  ·refine Sat.pure h (u := .bool (decide (a = b))) ?_ (.tv (.bool _))
   rw [hg]; simp [binOp, Op.stringOp, byteArray_list_eq]
  ·refine Sat.pure h (u := .bool (!decide (a = b))) ?_ (.tv (.bool _))
   rw [hg]; simp [binOp, Op.stringOp, byteArray_list_eq]
  ·trivial
 ·rename_i a b
  cases hx with
  | tv hx =>
  cases hy with
  | tv hy =>
  cases hx; cases hy
  have hg : ∀ (p : Sem Value), (do pure (Next.value (← (do eqGuard op t ox oy (.bool a) (.bool b); p))) : Sem Next).run P w = (do pure (Next.value (← p)) : Sem Next).run P w := by
   intro p
   have : (eqGuard op t ox oy (.bool a) (.bool b)).run P w = .ok () w := by
    unfold eqGuard; split <;> simp
   simp [this]
  split
  ·rename_i ht
   have hu := tBool_true ht
   split
   ·refine Sat.pure h (u := .bool (a == b)) ?_ (.tv (.bool _))
    rw [hg]; simp [run_eql_bool (P := P) (w := w) t a b hu]
   ·refine Sat.pure h (u := .bool (!(a == b))) ?_ (.tv (.bool _))
    rw [hg]; simp [run_neq_bool (P := P) (w := w) t a b hu]
   ·trivial
  ·trivial
 ·rename_i b sz rows
  split
  ·rename_i e he
   have hu := tElem_some he
   cases hx with
   | tv hx =>
   cases hy with
   | tv hy =>
   cases hx with
   | slin _ _ _ A len cap hx hb =>
   cases hy
   have hg : ∀ (p : Sem Value), (do pure (Next.value (← (do eqGuard op t ox oy (.slice A len cap) (.slice none 0 0); p))) : Sem Next).run P w = (do pure (Next.value (← p)) : Sem Next).run P w := by
    intro p
    have : (eqGuard op t ox oy (.slice A len cap) (.slice none 0 0)).run P w = .ok () w := by
     unfold eqGuard; split <;> simp
    simp [this]
   split
   ·refine Sat.pure h (u := .bool b) ?_ (.tv (.bool _))
    rw [hg]; simp [binOp, run_equal_slice_nil w t e A len cap hu, hb]
   ·refine Sat.pure h (u := .bool (!b)) ?_ (.tv (.bool _))
    rw [hg]; simp [binOp, run_equal_slice_nil w t e A len cap hu, hb]
   ·trivial
  ·trivial
 ·split
  ·rename_i e he
   have hu := tElem_some he
   cases hx with
   | tv hx =>
   cases hy with
   | tv hy =>
   cases hx
   cases hy
   have hg : ∀ (p : Sem Value), (do pure (Next.value (← (do eqGuard op t ox oy (.slice none 0 0) (.slice none 0 0); p))) : Sem Next).run P w = (do pure (Next.value (← p)) : Sem Next).run P w := by
    intro p
    have : (eqGuard op t ox oy (.slice none 0 0) (.slice none 0 0)).run P w = .ok () w := by
     unfold eqGuard; split <;> simp
    simp [this]
   split
   ·refine Sat.pure h (u := .bool true) ?_ (.tv (.bool _))
    rw [hg]; simp [binOp, run_equal_slice_nil w t e none 0 0 hu]
   ·refine Sat.pure h (u := .bool false) ?_ (.tv (.bool _))
    rw [hg]; simp [binOp, run_equal_slice_nil w t e none 0 0 hu]
   ·trivial
  ·trivial
 ·trivial
theorem sat_un {op : UnOp} {x : AV} {ux : Value} (h : WR B w0 σ ι H w) (hx : VR σ ι x ux) (hs : s = (do pure (.value (← Op.unary op ux)))) :
  Sat P s w B w0 σ ι H id (evUn op x) := by
 subst hs
 unfold evUn
 split
 ·cases hx with
  | tv hx => cases hx; exact sat_run h (.tv (.bool _)) (by simp [Op.unary])
 ·cases hx with
  | tv hx => cases hx; exact sat_run h (.tv (.int _ _)) (by simp [Op.unary, Op.intArith])
 ·trivial
end
end Go.Proofs.YtphmhelkojdlaaaDoor
namespace Go.Proofs.YtphmhelkojdlaaaDoor
open Go.RowKit
set_option linter.unusedSimpArgs false
set_option linter.unusedVariables false
section
variable {P : Program} {B : Base} {w0 w : World} {σ : Facts} {ι : Where} {H : Hp} {id : Id} {s : Sem Next}
def spliceG {α : Type} (cs : List α) (off : Nat) (news : List α) : List α := cs.take off ++ news ++ cs.drop (off + news.length)
theorem splice_length {α : Type} (cs news : List α) (off : Nat) (h : off + news.length ≤ cs.length) : (spliceG cs off news).length = cs.length := by
 simp [spliceG]; omega
theorem spliceG_get {α : Type} (cs news : List α) (off : Nat) (h : off + news.length ≤ cs.length) (j : Nat) :
  (spliceG cs off news)[j]? = if j < off then cs[j]? else if j < off + news.length then news[j - off]? else cs[j]? := splice_get cs news off h j
theorem fold_sets (off : Nat) : ∀ (vs : List Value) (k : Nat) (arr : Array Value), off + k + vs.length ≤ arr.size →
  ((vs.zipIdx k).foldl (fun (cs : Array Value) (x : Value × Nat) => cs.setIfInBounds (off + x.2) x.1) arr).toList = spliceG arr.toList (off + k) vs := by
 intro vs
 induction vs with
 | nil => intro k arr h; simp [spliceG]
 | cons v vs ih =>
  intro k arr h
  simp only [List.zipIdx_cons, List.foldl_cons]
  simp only [List.length_cons] at h
  rw [ih (k + 1) _ (by simp; omega)]
  apply List.ext_getElem?
  intro j
  rw [spliceG_get _ _ _ (by simp; omega), spliceG_get _ _ _ (by simp; omega)]
  simp only [Array.toList_setIfInBounds, List.getElem?_set, List.length_cons]
  by_cases h1 : j < off + k
  ·rw [if_pos (by omega), if_pos h1, if_neg (by omega)]
  ·rw [if_neg h1]
   by_cases h2 : j = off + k
   ·subst h2
    rw [if_pos (by omega), if_pos rfl, if_pos (by simp; omega), if_pos (by omega)]
    simp
   ·rw [if_neg (by omega)]
    by_cases h3 : j < off + (k + 1) + vs.length
    ·rw [if_pos h3, if_pos (by omega)]
     have : j - (off + k) = (j - (off + (k + 1))) + 1 := by omega
     rw [this]; simp
    ·rw [if_neg h3, if_neg (by omega), if_neg (by omega)]
theorem VRs.splice {cs vs : List AV} {us uvs : List Value} (h : VRs σ ι cs us) (hv : VRs σ ι vs uvs) (off : Nat) : VRs σ ι (splice cs off vs) (spliceG us off uvs) := by
 unfold Go.Proofs.YtphmhelkojdlaaaDoor.splice spliceG
 rw [hv.1]
 exact ((h.take off).append hv).append (h.drop _)
/-- Parts laid into cells, by their places. -/
def fillG (place : Nat → Option (Nat × Nat)) : List AV → List (Nat × AV) → Option (List AV)
 | cs, [] => some cs
 | cs, (i, v) :: r => match place i, v.cells with
  | some (off, n), some vs => if vs.length = n ∧ off + n ≤ cs.length then fillG place (splice cs off vs) r else none
  | _, _ => none
theorem fill_ok (place : Nat → Option (Nat × Nat)) : ∀ (parts : List (Nat × AV)) (uparts : List (Nat × Value)) (cs : List AV) (us : Array Value) (out : List AV),
  VRs σ ι cs us.toList → uparts.map (·.1) = parts.map (·.1) → VRs σ ι (parts.map (·.2)) (uparts.map (·.2)) → fillG place cs parts = some out →
  ∃ arr, Instr.fill place us uparts = some arr ∧ VRs σ ι out arr.toList := by
 intro parts
 induction parts with
 | nil =>
  intro uparts cs us out h h1 h2 h3
  have : uparts = [] := by simpa using h1
  subst this
  simp [fillG] at h3; subst h3
  exact ⟨us, rfl, h⟩
 | cons p parts ih =>
  intro uparts cs us out h h1 h2 h3
  obtain ⟨i, v⟩ := p
  cases uparts with
  | nil => simp at h1
  | cons q uparts =>
   obtain ⟨i', u⟩ := q
   simp only [List.map_cons, List.cons.injEq] at h1
   obtain ⟨rfl, h1⟩ := h1
   simp only [List.map_cons] at h2
   obtain ⟨u', us', he, hv, h2⟩ := h2.cons_inv
   simp only [List.cons.injEq] at he
   obtain ⟨rfl, rfl⟩ := he
   simp only [fillG] at h3
   split at h3
   ·rename_i off n vs hp hc
    split at h3
    ·rename_i hcond
     obtain ⟨hl, hle⟩ := hcond
     obtain ⟨uvs, hu, hvs⟩ := hv.cells hc
     have hlen : us.toList.length = cs.length := h.1
     have hsz : uvs.length = n := by rw [hvs.1, hl]
     have hfold := fold_sets off uvs 0 us (by simp at hlen; omega)
     obtain ⟨arr, ha, hr⟩ := ih uparts (splice cs off vs) ((uvs.zipIdx 0).foldl (fun (cs : Array Value) (x : Value × Nat) => cs.setIfInBounds (off + x.2) x.1) us) out
      (by rw [hfold]; exact h.splice hvs off) h1 h2 h3
     refine ⟨arr, ?_, hr⟩
     simp only [Instr.fill, hp]
     rw [if_neg]
     ·rw [← ha, hu]
      congr 1
      rw [← Array.foldl_toList]
      simp
     ·rw [hu]; simp; simp at hlen; omega
    ·cases h3
   ·cases h3
/-- The places of a struct's fields: offset and size. -/
def tPlaces (P : Program) (t : TypeId) : Option (List (Nat × Nat)) := match P.underlying t with
 | some (.struct fs) => fs.toList.mapM fun f => (tSz P f.type).map fun n => (f.offset, n)
 | _ => none
theorem mapM_run : ∀ (l : List Field) (out : List (Nat × Nat)), (l.mapM fun f => (tSz P f.type).map fun n => (f.offset, n)) = some out →
  ∀ w, (l.mapM (fun f => do pure (f.offset, ← sizeOf f.type) : Field → Sem (Nat × Nat))).run P w = .ok out w := by
 intro l
 induction l with
 | nil => intro out h w; simp at h; subst h; simp
 | cons f l ih =>
  intro out h w
  simp only [List.mapM_cons] at h
  cases hn : tSz P f.type with
  | none => rw [hn] at h; simp at h
  | some n =>
   rw [hn] at h
   simp only [Option.map_some, Option.bind_eq_bind, Option.bind_some] at h
   cases hm : (l.mapM fun f => (tSz P f.type).map fun n => (f.offset, n)) with
   | none => rw [hm] at h; simp at h
   | some o =>
    rw [hm] at h; simp at h; subst h
    simp only [List.mapM_cons, Sem.run_bind, run_sizeOf' hn, Result.andThen_ok, Sem.run_pure, ih o hm]
/-- 'T{..}'. -/
def evBuild' (P : Program) (t : TypeId) (parts : List (Nat × AV)) : Res := match tZero P t with
 | some z => match z.cells with
  | some zc => match tPlaces P t with
   | some pl => match fillG (pl[·]?) zc parts with
    | some cs => .val (.agg cs) .no
    | none => .fail
   | none => match tArr P t with
    | some (_, e) => match tSz P e with
     | some n => match fillG (fun i => some (i * n, n)) zc parts with
      | some cs => .val (.agg cs) .no
      | none => .fail
     | none => .fail
    | none => .fail
  | none => .fail
 | none => .fail
theorem sat_build {t : TypeId} {parts : List (Nat × AV)} {uparts : Array (Nat × Value)} (h : WR B w0 σ ι H w) (h1 : uparts.toList.map (·.1) = parts.map (·.1)) (h2 : VRs σ ι (parts.map (·.2)) (uparts.toList.map (·.2)))
  (hs : s = (do pure (.value (← Instr.build t uparts)))) : Sat P s w B w0 σ ι H id (evBuild' P t parts) := by
 subst hs
 unfold evBuild'
 split
 ·rename_i z hz
  obtain ⟨zv, hzr, hzv⟩ := tZero_some hz
  split
  ·rename_i zc hzc
   obtain ⟨uz, huz, hvz⟩ := (hzv σ ι).cells hzc
   split
   ·rename_i pl hpl
    split
    ·rename_i cs hf
     obtain ⟨arr, ha, hr⟩ := fill_ok (σ := σ) (ι := ι) (fun i => pl[i]?) parts uparts.toList zc uz.toArray cs (by simpa using hvz) h1 h2 hf
     refine sat_run h (u := .agg arr) ?_ ?_
     ·have := VR.agg (σ := σ) (ι := ι) cs arr.toList hr.1 hr.2
      simpa using this
     ·unfold tPlaces at hpl
      split at hpl
      ·rename_i fs hu
       have hm := mapM_run fs.toList pl hpl w
       have e : (fs.mapM (fun f => do pure (f.offset, ← sizeOf f.type) : Field → Sem (Nat × Nat))).run P w = .ok pl.toArray w := by
        rw [Array.mapM_eq_mapM_toList]
        simp only [Sem.run_map, hm, Result.andThen_ok]
       have e2 : ∀ i : Nat, pl.toArray[i]? = pl[i]? := fun i => by simp
       have e3 : Instr.fill (fun i => pl.toArray[i]?) zv.cells uparts.toList = some arr := by
        rw [huz, show (fun i => pl.toArray[i]?) = fun i => pl[i]? from funext e2]; exact ha
       simp only [Instr.build, Sem.run_bind, hzr, Result.andThen_ok, run_underlying hu, e, e3, Sem.run_pure]
      ·cases hpl
    ·trivial
   ·split
    ·rename_i len e harr
     split
     ·rename_i n hn
      split
      ·rename_i cs hf
       obtain ⟨arr, ha, hr⟩ := fill_ok (σ := σ) (ι := ι) (fun i => some (i * n, n)) parts uparts.toList zc uz.toArray cs (by simpa using hvz) h1 h2 hf
       refine sat_run h (u := .agg arr) ?_ ?_
       ·have := VR.agg (σ := σ) (ι := ι) cs arr.toList hr.1 hr.2
        simpa using this
       ·rw [← huz] at ha
        simp only [Instr.build, Sem.run_bind, hzr, Result.andThen_ok, run_underlying (tArr_some harr), run_sizeOf' hn, ha, Sem.run_pure]
      ·trivial
     ·trivial
    ·trivial
  ·trivial
 ·trivial

/-! ### A slice that is written out -/
theorem tvs_some : ∀ {cs : List AV} {ts : List TV}, tvs cs = some ts → cs = ts.map .tv := by
 intro cs
 induction cs with
 | nil => intro ts h; simp [tvs] at h; subst h; rfl
 | cons c cs ih =>
  intro ts h
  cases c <;> simp [tvs] at h
  obtain ⟨ts', h1, rfl⟩ := h
  simp [ih h1]
theorem chunk_len (n : Nat) : ∀ (k : Nat) (l : List TV), (chunk n k l).length = k
 | 0, _ => rfl
 | k + 1, l => by simp [chunk, chunk_len n k]
theorem chunk_get (n : Nat) : ∀ (k : Nat) (l : List TV) (i : Nat) (r : List TV), (chunk n k l)[i]? = some r → r = (l.drop (i * n)).take n
 | 0, _, i, r, h => by simp [chunk] at h
 | k + 1, l, 0, r, h => by simp [chunk] at h; simp [h]
 | k + 1, l, i + 1, r, h => by
  simp only [chunk, List.getElem?_cons_succ] at h
  rw [chunk_get n k _ i r h, List.drop_drop]
  congr 2
  rw [Nat.add_mul]; omega
/-- Cells in memory, for good, read as a slice of rows. -/
theorem TR.ofCells {ts : List TV} {n k b : Nat} {us : Nat → Value} {cap : Nat} (hl : ts.length = k * n) (hc : k ≤ cap) (hm : k ≤ 9223372036854775807)
  (hv : ∀ j c, ts[j]? = some c → TR σ c (us j) ∧ σ ⟨b, j, none⟩ (us j)) : TR σ (.sli n (chunk n k ts)) (.slice (some ⟨b, 0, none⟩) k cap) := by
 have hlen := chunk_len n k ts
 have : TR σ (.sli n (chunk n k ts)) (.slice (some ⟨b, 0, none⟩) (chunk n k ts).length cap) := by
  have at_ : ∀ i j r c, (chunk n k ts)[i]? = some r → r[j]? = some c → ts[i * n + j]? = some c := by
   intro i j r c h1 h2
   rw [chunk_get n k ts i r h1, List.getElem?_take] at h2
   split at h2
   ·rw [List.getElem?_drop] at h2; exact h2
   ·cases h2
  refine .sli n _ _ cap (fun i j => us (i * n + j)) (by omega) (by omega) (fun h => by cases h) ?_ (fun i j r c h1 h2 => (hv _ c (at_ i j r c h1 h2)).1) (fun a i j r c he h1 h2 => ?_)
  ·intro r hr
   obtain ⟨i, hi⟩ := List.mem_iff_getElem?.1 hr
   have hlt := (List.getElem?_eq_some_iff.1 hi).1
   rw [chunk_get n k ts i r hi]
   rw [hlen] at hlt
   have : i * n + n ≤ ts.length := by
    rw [hl, ← Nat.succ_mul]; exact Nat.mul_le_mul_right _ hlt
   simp; omega
  ·cases he
   rw [add_none]; simp only [Nat.zero_add]
   exact (hv _ c (at_ i j r c h1 h2)).2
 rw [hlen] at this; exact this
def evBuildSlice' (P : Program) (id : Id) (t : TypeId) (len : Nat) (parts : List (Nat × AV)) : Res := match tElem P t with
 | some e => match tSz P e, tZero P e with
  | some n, some z => match z.cells with
   | some zc => if len * n = 0 then (if len = 0 ∧ parts.length = 0 then .val (.sl id n 0 0) (.new (.row [] false)) else .fail) else if len * n ≤ 1000000 ∧ zc.length = n then
     match fillG (fun i => some (i * n, n)) ((List.replicate len zc).flatten) parts with
     | some cs => match tvs cs with
      | some ts => if ts.length = len * n then .val (.tv (.sli n (chunk n len ts))) .no else .fail
      | none => chk (cs.all AV.one = true ∧ cs.length = len * n) (.val (.sl id n 0 len) (.new (.row cs false)))
     | none => .fail
    else .fail
   | none => .fail
  | _, _ => .fail
 | none => .fail
theorem range_zero (uz : List Value) (len : Nat) (h : 0 < uz.length) : (Array.range (len * uz.length)).map (fun i => uz.toArray[i % uz.length]!) = ((List.replicate len uz).flatten).toArray := by
 apply Array.toList_inj.1
 simp only [Array.toList_map, Array.toList_range]
 apply List.ext_getElem?
 intro j
 simp only [List.getElem?_map]
 by_cases hj : j < len * uz.length
 ·rw [List.getElem?_range hj]
  have hm : j % uz.length < uz.length := Nat.mod_lt _ h
  simp only [Option.map_some]
  have : ∀ (k m : Nat), m < k * uz.length → ((List.replicate k uz).flatten)[m]? = some (uz.getD (m % uz.length) undef) := by
   intro k
   induction k with
   | zero => intro m hm; simp at hm
   | succ k ih =>
    intro m hm
    rw [List.replicate_succ, List.flatten_cons, List.getElem?_append]
    split
    ·rename_i hlt
     rw [Nat.mod_eq_of_lt hlt]; simp [hlt]
    ·rename_i hge
     rw [ih _ (by rw [Nat.succ_mul] at hm; omega)]
     congr 2
     have : m = (m - uz.length) + uz.length := by omega
     conv => rhs; rw [this]
     simp
  rw [this len j hj]
  have hm' : j % uz.length < uz.toArray.size := by simpa using hm
  simp [getElem!_pos, hm, hm']
 ·rw [List.getElem?_eq_none (by simp; omega), List.getElem?_eq_none (by simp [List.length_flatten, List.map_replicate, List.sum_replicate_nat]; omega)]
  rfl
theorem sat_buildSlice {t : TypeId} {len : Nat} {parts : List (Nat × AV)} {uparts : Array (Nat × Value)} (h : WR B w0 σ ι H w) (hid : ι id = none) (h1 : uparts.toList.map (·.1) = parts.map (·.1)) (h2 : VRs σ ι (parts.map (·.2)) (uparts.toList.map (·.2)))
  (hs : s = (do pure (.value (← Instr.buildSlice t len uparts)))) : Sat P s w B w0 σ ι H id (evBuildSlice' P id t len parts) := by
 subst hs
 unfold evBuildSlice'
 split
 ·rename_i e he
  have hu := tElem_some he
  split
  ·rename_i n z hn hz
   obtain ⟨zv, hzr, hzv⟩ := tZero_some hz
   split
   ·rename_i zc hzc
    obtain ⟨uz, huz, hvz⟩ := (hzv σ ι).cells hzc
    split
    ·rename_i h0
     split
     ·rename_i hl0
      obtain ⟨rfl, hp⟩ := hl0
      have hp' : uparts = #[] := by
       have : uparts.toList.length = 0 := by
        have := congrArg List.length h1
        simp at this; simp [this, hp]
       apply Array.toList_inj.1
       simpa using this
      subst hp'
      refine ⟨.slice (some ⟨w.heap.size, 0, none⟩) 0 0, w.alloc (.cells #[] e), .inl ?_, σ, _, .sl0 _ _ _ _, (h.junk _).empty id hid false, fun _ _ h => h, wput_le hid, fun j hj => wput_ne j hj⟩
      have hr0 : ∀ f : Nat → Value, (Array.range 0).map f = #[] := fun f => by simp [Array.range]
      simp only [Instr.buildSlice, Sem.run_bind, run_underlying hu, Result.andThen_ok, run_sizeOf' hn, Nat.zero_mul, gt_iff_lt, Nat.not_lt_zero, if_false, Sem.run_pure, if_true, newRow, run_newObj, Instr.fill, Sem.run_ite, hr0]
      rfl
     ·trivial
    ·rename_i h0
     split
     ·rename_i hcond
      obtain ⟨hle, hzl⟩ := hcond
      have hun : uz.length = n := by rw [hvz.1, hzl]
      have hn0 : 0 < n := by
       rcases Nat.eq_zero_or_pos n with h | h
       ·subst h; simp at h0
       ·exact h
      have hzero : VRs σ ι ((List.replicate len zc).flatten) ((List.replicate len uz).flatten) := by
       clear hle h0
       induction len with
       | zero => exact VRs.nil _ _
       | succ k ih => rw [List.replicate_succ, List.replicate_succ, List.flatten_cons, List.flatten_cons]; exact hvz.append ih
      split
      ·rename_i cs hf
       obtain ⟨arr, ha, hr⟩ := fill_ok (σ := σ) (ι := ι) (fun i => some (i * n, n)) parts uparts.toList _ ((List.replicate len uz).flatten).toArray cs (by simpa using hzero) h1 h2 hf
       have hrun : (do pure (Next.value (← Instr.buildSlice t len uparts)) : Sem Next).run P w = .ok (.value (.slice (some ⟨w.heap.size, 0, none⟩) len len)) (w.alloc (.cells arr e)) := by
        have hbig : ¬ (16777216 < len * n) := by omega
        have hcells : (Array.range (len * n)).map (fun i => zv.cells[i % zv.cells.size]!) = ((List.replicate len uz).flatten).toArray := by
         have := range_zero uz len (by omega)
         rw [huz]
         simp only [List.size_toArray]
         rw [hun] at this ⊢
         exact this
        simp only [Instr.buildSlice, Sem.run_bind, run_underlying hu, Result.andThen_ok, run_sizeOf' hn, Sem.run_ite, gt_iff_lt, Nat.reducePow, hbig, if_false, Sem.run_pure, h0, hzr, hcells, ha, newRow, run_newObj]
        rfl
       split
       ·rename_i ts hts
        split
        ·rename_i htl
         have hcs := tvs_some hts
         subst hcs
         have hju := h.junk (.cells arr e)
         -- the new block's cells are known for good
         have hnew : WR B w0 (fun a v => σ a v ∨ (a.block = w.heap.size ∧ (w.alloc (.cells arr e)).cell? a = some v)) ι H (w.alloc (.cells arr e)) := by
          refine ⟨hju.hB, hju.below, fun j o b m hj hi => ?_, hju.ghost, hju.dom, hju.inj, fun a v hs => ?_, fun a v hs j o b m hj hi hb => ?_, fun a v hs => hs.elim (h.newf a v) (fun hs => .inr (by rw [hs.1]; exact h.fresh))⟩
          ·obtain ⟨hb, obj, hw, hor⟩ := hju.obj j o b m hj hi
           exact ⟨hb, obj, hw, hor.mono (fun _ _ h => .inl h) (fun _ _ h => h)⟩
          ·rcases hs with hs | ⟨_, hs⟩
           ·exact hju.sure a v hs
           ·exact hs
          ·rcases hs with hs | ⟨hs, _⟩
           ·exact hju.stab a v hs j o b m hj hi hb
           ·have := h.lt hj hi; omega
         refine ⟨_, _, .inl hrun, _, ι, .tv ?_, hnew, fun _ _ h => .inl h, fun _ _ h => h, fun _ _ => rfl⟩
         refine TR.ofCells (us := fun j => arr.getD j undef) htl (Nat.le_refl _) (by
          have : len ≤ len * n := Nat.le_mul_of_pos_right _ hn0
          omega) (fun j c hj => ?_)
         have hj' : (ts.map AV.tv)[j]? = some (.tv c) := by simp [hj]
         obtain ⟨u, hu1, hu2⟩ := hr.get hj'
         have hu3 : arr[j]? = some u := by simpa using hu1
         have hlt : j < arr.size := (Array.getElem?_eq_some_iff.1 hu3).1
         have hu4 : arr.getD j undef = u := by simp [Array.getD, hlt]; exact (Array.getElem?_eq_some_iff.1 hu3).2
         rw [hu4]
         cases hu2 with
         | tv hu2 => exact ⟨hu2.mono (fun _ _ h => .inl h), .inr ⟨rfl, by rw [World.cell?_alloc_new]; exact hu3⟩⟩
        ·trivial
       ·refine sat_chk fun ⟨hone, hlen⟩ => ?_
        have e1 : arr = arr.toList.toArray := by simp
        have hvr : VR σ (wput ι id (some (w.heap.size, cs.length))) (.sl id n 0 len) (.slice (some ⟨w.heap.size, 0, none⟩) len len) := by
         have := VR.sl (σ := σ) (ι := wput ι id (some (w.heap.size, cs.length))) id n 0 len w.heap.size cs.length len wput_at (Nat.le_refl _) (by simp; omega) (by
          have : len ≤ len * n := Nat.le_mul_of_pos_right _ hn0
          omega)
         simpa using this
        refine ⟨_, _, .inl hrun, σ, _, hvr, ?_, fun _ _ h => h, wput_le hid, fun j hj => wput_ne j hj⟩
        have := h.newRow hid hr e
        rw [← e1] at this
        exact this
      ·trivial
     ·trivial
   ·trivial
  ·trivial
 ·trivial
end
end Go.Proofs.YtphmhelkojdlaaaDoor
namespace Go.Proofs.YtphmhelkojdlaaaDoor
open Go.RowKit
set_option linter.unusedSimpArgs false
set_option linter.unusedVariables false
section
variable {P : Program} {B : Base} {w0 w : World} {σ : Facts} {ι : Where} {H : Hp} {id : Id} {s : Sem Next}
/-! ### x[l:h] -/
def bnd (d : Int) : Option AV → Option Int
 | none => some d
 | some (.tv (.int _ n)) => some n
 | _ => none
def evSlice (P : Program) (t : TypeId) (x : AV) (lo hi : Option AV) : Res := match x with
 | .tv (.str st) => if tStr P t then match bnd 0 lo, bnd st.size hi with
  | some l, some h => .need (0 ≤ l ∧ l ≤ h ∧ h ≤ (st.size : Int)) (.val (.tv (.str (st.extract l.toNat h.toNat))) .no)
  | _, _ => .fail else .fail
 | .tv (.sli sz rows) => match tElem P t with
  | some e => match tSz P e, bnd 0 lo, bnd rows.length hi with
   | some n, some l, some h => if n = sz then .need (0 ≤ l ∧ l ≤ h ∧ h ≤ (rows.length : Int)) (.val (.tv (.sli sz ((rows.take h.toNat).drop l.toNat))) .no) else .fail
   | _, _, _ => .fail
  | none => .fail
 | .tv .nils => match tElem P t with
  | some e => match tSz P e, bnd 0 lo, bnd (([] : List (List TV)).length) hi with
   | some _, some l, some h => .need (0 ≤ l ∧ l ≤ h ∧ h ≤ (([] : List (List TV)).length : Int)) (.val (.tv .nils) .no)
   | _, _, _ => .fail
  | none => .fail
 | .sl i sz off len => match tElem P t with
  | some e => match tSz P e, bnd 0 lo, bnd len hi with
   | some n, some l, some h => if n = sz then .need (0 ≤ l ∧ l ≤ h ∧ h ≤ (len : Int)) (.val (.sl i sz (off + l.toNat) (h.toNat - l.toNat)) .no) else .fail
   | _, _, _ => .fail
  | none => .fail
 | _ => .fail
/-- A bound, told and in the machine. -/
def BndR (d : Int) (b : Option AV) (u : Option Value) (n : Int) : Prop := (b = none ∧ u = none ∧ n = d) ∨ (∃ k, b = some (.tv (.int k n)) ∧ u = some (.int k n))
def OVR (σ : Facts) (ι : Where) : Option AV → Option Value → Prop
 | none, none => True
 | some v, some x => VR σ ι v x
 | _, _ => False
theorem bnd_ok {d n : Int} {b : Option AV} {u : Option Value} (h : bnd d b = some n) (hu : OVR σ ι b u) : BndR d b u n := by
 cases b with
 | none =>
  cases u with
  | none => simp [bnd] at h; exact .inl ⟨rfl, rfl, h.symm⟩
  | some x => exact hu.elim
 | some v =>
  cases u with
  | none => exact hu.elim
  | some x =>
   unfold bnd at h
   split at h
   ·rename_i e; cases e
   ·rename_i k m e
    cases h; cases e
    cases hu with
    | tv hu => cases hu; exact .inr ⟨k, rfl, rfl⟩
   ·cases h
theorem run_bounds {isSlice : Bool} {len cap : Nat} {lo hi : Option AV} {ulo uhi : Option Value} {l h : Int} (hl : BndR 0 lo ulo l) (hh : BndR len hi uhi h) (h0 : 0 ≤ l) (h1 : l ≤ h) (h2 : h ≤ (cap : Int)) :
  (Instr.sliceBounds isSlice len cap ulo uhi none).run P w = .ok (l.toNat, h.toNat, cap) w := by
 have e1 : ∀ (k : IntKind) (n : Int) (y : Nat) (code : BoundsCode), 0 ≤ n → n ≤ (y : Int) → (Instr.sliceBound (.int k n) y code).run P w = .ok n.toNat w := by
  intro k n y code a b
  simp [Instr.sliceBound, asIntOf, a, b]
 have hh0 : 0 ≤ h := by omega
 have hcast : l ≤ ((h.toNat : Nat) : Int) := by omega
 rcases hl with ⟨_, rfl, rfl⟩ | ⟨k, _, rfl⟩ <;> rcases hh with ⟨_, rfl, rfl⟩ | ⟨k', _, rfl⟩
 ·simp [Instr.sliceBounds]
 ·simp [Instr.sliceBounds, e1 k' h cap _ hh0 h2]
 ·have := e1 k l len .sliceB h0 (by omega)
  simp [Instr.sliceBounds, this]
 ·have := e1 k l h.toNat .sliceB h0 hcast
  simp [Instr.sliceBounds, e1 k' h cap _ hh0 h2, this]
theorem sat_slice {t : TypeId} {x : AV} {ux : Value} {lo hi : Option AV} {ulo uhi : Option Value} (h : WR B w0 σ ι H w) (hx : VR σ ι x ux)
  (hlo : OVR σ ι lo ulo) (hhi : OVR σ ι hi uhi)
  (hs : s = (do pure (.value (← Instr.sliceAt t ux ulo uhi none)))) : Sat P s w B w0 σ ι H id (evSlice P t x lo hi) := by
 subst hs
 unfold evSlice
 split
 ·rename_i st
  split
  ·rename_i ht
   split
   ·rename_i l hh' e1 e2
    intro ⟨h0, h1, h2⟩
    cases hx with
    | tv hx => cases hx with
    | str _ hst =>
    have hb := run_bounds (P := P) (w := w) (isSlice := false) (len := st.size) (cap := st.size) (bnd_ok e1 hlo) (bnd_ok e2 hhi) h0 h1 h2
    refine sat_run h (.tv (.str _ ?_)) ?_
    ·rw [ByteArray.size_extract]; omega
    ·simp [Instr.sliceAt, run_underlying (tStr_true ht), Instr.slice, hb]
   ·trivial
  ·trivial
 ·rename_i sz rows
  split
  ·rename_i e he
   split
   ·rename_i n l hh' hn e1 e2
    split
    ·rename_i en; subst en
     intro ⟨h0, h1, h2⟩
     cases hx with
     | tv hx => cases hx with
     | sli _ _ A cap us hc hm hA hz hv hs' =>
     have hb := run_bounds (P := P) (w := w) (isSlice := true) (len := rows.length) (cap := cap) (bnd_ok e1 hlo) (bnd_ok e2 hhi) h0 h1 (by omega)
     have hrun : (Instr.sliceAt t (.slice A rows.length cap) ulo uhi none).run P w = .ok (.slice (if cap = l.toNat then A else A.map (·.add (l.toNat * n))) (hh'.toNat - l.toNat) (cap - l.toNat)) w := by
      simp [Instr.sliceAt, run_underlying (tElem_some he), Instr.slice, hb, run_sizeOf' hn]
     have hlen : ((rows.take hh'.toNat).drop l.toNat).length = hh'.toNat - l.toNat := by simp; omega
     have at_ : ∀ i r, ((rows.take hh'.toNat).drop l.toNat)[i]? = some r → rows[l.toNat + i]? = some r := by
      intro i r hr
      rw [List.getElem?_drop, List.getElem?_take] at hr
      split at hr
      ·exact hr
      ·cases hr
     refine sat_run h (.tv ?_) hrun
     rw [← hlen]
     refine .sli _ _ _ _ (fun i j => us (l.toNat + i) j) (by omega) (by omega) ?_ ?_ (fun i j r c a b => hv _ j r c (at_ i r a) b) ?_
     ·intro he
      split at he
      ·rename_i hcap
       have : ((rows.take hh'.toNat).drop l.toNat).length = 0 := by omega
       exact List.eq_nil_of_length_eq_zero this
      ·cases A with
       | none =>
        have := hA rfl; subst this; simp
       | some a => simp at he
     ·intro r hr
      exact hz r (List.mem_of_mem_take (List.mem_of_mem_drop hr))
     ·intro a i j r c hA' hr hc'
      have hi : i < ((rows.take hh'.toNat).drop l.toNat).length := (List.getElem?_eq_some_iff.1 hr).1
      have hne : ¬ (cap = l.toNat) := by omega
      rw [if_neg hne] at hA'
      cases A with
      | none => simp at hA'
      | some a0 =>
       simp at hA'; subst hA'
       have := hs' a0 (l.toNat + i) j r c rfl (at_ i r hr) hc'
       have e3 : (a0.add (l.toNat * n)).add (i * n + j) = a0.add ((l.toNat + i) * n + j) := by
        unfold Addr.add
        by_cases g0 : l.toNat * n = 0
        ·rw [if_pos g0, Nat.add_mul, g0]; simp
        ·by_cases g1 : i * n + j = 0
         ·rw [if_pos g1, if_neg g0, Nat.add_mul, Nat.add_assoc, g1]; simp [g0]
         ·have g2 : (l.toNat + i) * n + j ≠ 0 := by rw [Nat.add_mul]; omega
          rw [if_neg g1, if_neg g0, if_neg g2]
          simp [Nat.add_mul, Nat.add_assoc]
       rw [e3]; exact this
    ·trivial
   ·trivial
  ·trivial
 ·split
  ·rename_i e he
   split
   ·rename_i n l hh' hn e1 e2
    intro ⟨h0, h1, h2⟩
    cases hx with
    | tv hx => cases hx with
    | nils =>
    have hb := run_bounds (P := P) (w := w) (isSlice := true) (len := 0) (cap := 0) (bnd_ok e1 hlo) (bnd_ok e2 hhi) h0 h1 (by simpa using h2)
    have l0 : l = 0 := by simp at h2; omega
    have h0' : hh' = 0 := by simp at h2; omega
    subst l0 h0'
    have hrun : (Instr.sliceAt t (.slice none 0 0) ulo uhi none).run P w = .ok (.slice none 0 0) w := by
     simp [Instr.sliceAt, run_underlying (tElem_some he), Instr.slice, hb, run_sizeOf' hn]
    exact sat_run h (.tv .nils) hrun
   ·trivial
  ·trivial
 ·rename_i i sz off len
  split
  ·rename_i e he
   split
   ·rename_i n l hh' hn e1 e2
    split
    ·rename_i en; subst en
     intro ⟨h0, h1, h2⟩
     cases hx with
     | sl _ _ _ _ b m cap hi' hc hn' hm =>
      have hb := run_bounds (P := P) (w := w) (isSlice := true) (len := len) (cap := cap) (bnd_ok e1 hlo) (bnd_ok e2 hhi) h0 h1 (by omega)
      have hrun : (Instr.sliceAt t (.slice (some ⟨b, off * n, none⟩) len cap) ulo uhi none).run P w = .ok (.slice (if cap = l.toNat then some ⟨b, off * n, none⟩ else some ((⟨b, off * n, none⟩ : Addr).add (l.toNat * n))) (hh'.toNat - l.toNat) (cap - l.toNat)) w := by
       simp [Instr.sliceAt, run_underlying (tElem_some he), Instr.slice, hb, run_sizeOf' hn]
      refine sat_run h ?_ hrun
      by_cases hcl : cap = l.toNat
      ·rw [if_pos hcl]
       have z1 : hh'.toNat - l.toNat = 0 := by omega
       have z2 : cap - l.toNat = 0 := by omega
       rw [z1, z2]; exact .sl0 _ _ _ _
      ·rw [if_neg hcl, add_none, ← Nat.add_mul]
       refine .sl _ _ _ _ b m _ hi' (by omega) ?_ (by omega)
       have : off + l.toNat + (cap - l.toNat) = off + cap := by omega
       rw [this]; exact hn'
     | sl0 _ _ _ A =>
      have hb := run_bounds (P := P) (w := w) (isSlice := true) (len := 0) (cap := 0) (bnd_ok e1 hlo) (bnd_ok e2 hhi) h0 h1 (by simpa using h2)
      have l0 : l = 0 := by have := h2; simp at this; omega
      have h0' : hh' = 0 := by have := h2; simp at this; omega
      subst l0 h0'
      have hrun : (Instr.sliceAt t (.slice A 0 0) ulo uhi none).run P w = .ok (.slice A 0 0) w := by
       simp [Instr.sliceAt, run_underlying (tElem_some he), Instr.slice, hb, run_sizeOf' hn]
      exact sat_run h (.sl0 _ _ _ _) hrun
    ·trivial
   ·trivial
  ·trivial
 ·trivial

/-! ### append -/
theorem hdel_hset (H : Hp) (i : Id) (o : AO) : hdel (hset H i o) i = hdel H i := by
 induction H with
 | nil => rfl
 | cons p r ih =>
  obtain ⟨k, x⟩ := p
  simp only [hset]
  by_cases e : k = i
  ·simp [e, hdel]
  ·simp [e, hdel, ih]
/-- A block goes over to another id. -/
theorem WR.rename (h : WR B w0 σ ι H w) {i : Id} {o : AO} {b n : Nat} (hi : hget H i = some o) (hb : ι i = some (some (b, n))) (hid : ι id = none) :
  WR B w0 σ (wput ι id (some (b, n))) ((id, o) :: hdel H i) w := by
 have hle := wput_le (x := some (b, n)) hid
 have old : ∀ j y, hget ((id, o) :: hdel H i) j = some y → j = id ∧ y = o ∨ j ≠ id ∧ j ≠ i ∧ hget H j = some y := by
  intro j y hj
  simp only [hget] at hj
  by_cases e : id = j
  ·rw [if_pos e] at hj; cases hj; exact .inl ⟨e.symm, rfl⟩
  ·rw [if_neg e, hget_hdel] at hj
   by_cases e2 : i = j
   ·rw [if_pos e2] at hj; cases hj
   ·rw [if_neg e2] at hj; exact .inr ⟨fun x => e x.symm, fun x => e2 x.symm, hj⟩
 refine ⟨h.hB, h.below, ?_, ?_, ?_, ?_, h.sure, ?_, h.newf⟩
 ·intro j y b' m hj hi'
  rcases old j y hj with ⟨rfl, rfl⟩ | ⟨hne, _, hj⟩
  ·rw [wput_at] at hi'; cases hi'
   obtain ⟨h1, obj, h2, h3⟩ := h.obj _ _ _ _ hi hb
   exact ⟨h1, obj, h2, h3.mono (fun _ _ h => h) hle⟩
  ·rw [wput_ne _ hne] at hi'
   obtain ⟨h1, obj, h2, h3⟩ := h.obj _ _ _ _ hj hi'
   exact ⟨h1, obj, h2, h3.mono (fun _ _ h => h) hle⟩
 ·intro j y hj hi'
  rcases old j y hj with ⟨rfl, rfl⟩ | ⟨hne, _, hj⟩
  ·rw [wput_at] at hi'; cases hi'
  ·rw [wput_ne _ hne] at hi'; exact h.ghost j y hj hi'
 ·intro j y hj
  rcases old j y hj with ⟨rfl, rfl⟩ | ⟨hne, _, hj⟩
  ·rw [wput_at]; simp
  ·rw [wput_ne _ hne]; exact h.dom j y hj
 ·intro j j' o1 o2 b1 n1 n2 h1 h2 h3 h4
  rcases old j o1 h1 with ⟨rfl, rfl⟩ | ⟨hne, hni, h1'⟩ <;> rcases old j' o2 h2 with ⟨rfl, rfl⟩ | ⟨hne', hni', h2'⟩
  ·rfl
  ·rw [wput_at] at h3; cases h3
   rw [wput_ne _ hne'] at h4
   exact absurd (h.inj _ _ _ _ _ _ _ h2' hi h4 hb) hni'
  ·rw [wput_at] at h4; cases h4
   rw [wput_ne _ hne] at h3
   exact absurd (h.inj _ _ _ _ _ _ _ h1' hi h3 hb) hni
  ·rw [wput_ne _ hne] at h3; rw [wput_ne _ hne'] at h4
   exact h.inj j j' o1 o2 b1 n1 n2 h1' h2' h3 h4
 ·intro a v hs j y b' m hj hi' hb'
  rcases old j y hj with ⟨rfl, rfl⟩ | ⟨hne, _, hj⟩
  ·rw [wput_at] at hi'; cases hi'
   exact h.stab a v hs _ _ _ _ hi hb hb'
  ·rw [wput_ne _ hne] at hi'
   exact h.stab a v hs j y b' m hj hi' hb'
/-- The source of an append: its cells, and how many elements they are. -/
def evSrc (P : Program) (H : Hp) (n : Nat) (e xt : TypeId) (x : AV) : Option (List AV × Nat) := match x with
 | .tv (.sli sz rows) => if sz = n then (tElem P xt).map fun _ => (rows.flatten.map .tv, rows.length) else none
 | .tv .nils => (tElem P xt).map fun _ => ([], 0)
 | .tv (.str st) => if tStr P xt ∧ n = 1 then some (st.data.toList.map (fun b => .tv (.int .u8 b.toNat)), st.size) else none
 | .sl i sz off len => if sz = n then match hget H i with
  | some (.row cells _) => if ((cells.drop (off * n)).take (len * n)).length = len * n ∧ ((cells.drop (off * n)).take (len * n)).all AV.one then (tElem P xt).map fun _ => ((cells.drop (off * n)).take (len * n), len) else none
  | _ => none else none
 | _ => none
def evAppend (P : Program) (H : Hp) (id : Id) (st xt : TypeId) (sv x : AV) : Res := match tElem P st with
 | some e => match tSz P e, tBy P e, tZero P e with
  | some n, some by', some z => match z.cells with
   | some zc => if zc.length = n ∧ 0 < n then match evSrc P H n e xt x with
    | some (news, m) => match sv with
     | .tv .nils => .need (m ≤ 9223372036854775807 ∧ m * by' ≤ 140737488355328) (.val (.sl id n 0 m) (.new (.row news false)))
     | .sl i sz off len => match hget H i with
      | some (.row cells ro) => .need (sz = n ∧ off = 0 ∧ cells.length = len * n ∧ len + m ≤ 9223372036854775807 ∧ (len + m) * by' ≤ 140737488355328) (.val (.sl id n 0 (len + m)) (.repl i (.row (cells ++ news) ro)))
      | _ => .fail
     | _ => .fail
    | none => .fail
   else .fail
   | none => .fail
  | _, _, _ => .fail
 | none => .fail
theorem src_ok {n m : Nat} {e xt : TypeId} {x : AV} {ux : Value} {news : List AV} (hx : VR σ ι x ux) (h : evSrc P H n e xt x = some (news, m)) (hu8 : True) :
  (P.underlying xt = some .string ∨ ∃ e', P.underlying xt = some (.slice e')) ∧
  ∀ w, WR B w0 σ ι H w → (∀ w', (Builtin.lenOf ux).run P w' = .ok m w') ∧ ∃ us, (∀ w' : World, w'.heap = w.heap → (Builtin.firstCells n m ux).run P w' = .ok us.toArray w') ∧ VRs σ ι news us ∧ news.length = m * n ∧ ∀ u ∈ us, u.oneCell' = true := by
 unfold evSrc at h
 split at h
 ·rename_i sz rows
  split at h
  ·rename_i hsz; subst hsz
   cases he : tElem P xt with
   | none => rw [he] at h; cases h
   | some e' =>
    rw [he] at h; simp only [Option.map_some, Option.some.injEq, Prod.mk.injEq] at h; obtain ⟨rfl, rfl⟩ := h
    refine ⟨.inr ⟨_, tElem_some he⟩, fun w hw => ?_⟩
    cases hx with
    | tv hx => cases hx with
    | sli _ _ A cap us hc hm hA hz hv hs' =>
    have hflat : ∀ (rs : List (List TV)), (∀ r ∈ rs, r.length = sz) → rs.flatten.length = rs.length * sz := by
     intro rs
     induction rs with
     | nil => simp
     | cons r rs ih => intro hh; rw [List.flatten_cons, List.length_append, hh r (by simp), ih (fun q hq => hh q (by simp [hq])), List.length_cons, Nat.succ_mul]; omega
    have hget : ∀ (rs : List (List TV)), (∀ r ∈ rs, r.length = sz) → ∀ q c, rs.flatten[q]? = some c → ∃ r, rs[q / sz]? = some r ∧ r[q % sz]? = some c := by
     intro rs
     induction rs with
     | nil => intro _ q c h; simp at h
     | cons r rs ih =>
      intro hh q c hq
      have hr : r.length = sz := hh r (by simp)
      rw [List.flatten_cons, List.getElem?_append] at hq
      split at hq
      ·rename_i hlt
       refine ⟨r, ?_, ?_⟩
       ·rw [Nat.div_eq_of_lt (by omega)]; rfl
       ·rw [Nat.mod_eq_of_lt (by omega)]; exact hq
      ·rename_i hge
       obtain ⟨r', h1, h2⟩ := ih (fun q hq => hh q (by simp [hq])) _ c hq
       have hz0 : 0 < sz := by
        rcases Nat.eq_zero_or_pos sz with h | h
        ·subst h
         have hr' := hh r' (by simp [List.mem_of_getElem? h1])
         have := (List.getElem?_eq_some_iff.1 h2).1
         omega
        ·exact h
       have e1 : q = (q - sz) + sz := by omega
       refine ⟨r', ?_, ?_⟩
       ·rw [e1, Nat.add_div_right _ hz0, List.getElem?_cons_succ, ← hr]; rw [hr]; rw [hr] at h1; exact h1
       ·rw [e1, Nat.add_mod_right]; rw [hr] at h2; exact h2
    refine ⟨fun _ => by simp [Builtin.lenOf], ?_⟩
    refine ⟨(List.range (rows.length * sz)).map (fun q => us (q / sz) (q % sz)), ?_, ⟨by rw [List.length_map, List.length_map, hflat rows hz, List.length_range], ?_⟩, by rw [List.length_map, hflat rows hz], ?_⟩
    ·cases A with
     | none =>
      have := hA rfl; subst this
      intro w' _; simp [Builtin.firstCells]
     | some a =>
      have hl : ((List.range (rows.length * sz)).map (fun q => us (q / sz) (q % sz))).length = rows.length * sz := by simp
      intro w' hw'
      have := run_loadCells_list (P := P) w' a ((List.range (rows.length * sz)).map (fun q => us (q / sz) (q % sz))) (fun j v hj => by
       simp only [List.getElem?_map] at hj
       by_cases hlt : j < rows.length * sz
       ·rw [List.getElem?_range hlt] at hj
        simp at hj; subst hj
        have hlt' : j < rows.flatten.length := by rw [hflat rows hz]; exact hlt
        obtain ⟨r, h1, h2⟩ := hget rows hz j _ (List.getElem?_eq_getElem hlt')
        have := hs' a (j / sz) (j % sz) r _ rfl h1 h2
        have e2 : j / sz * sz + j % sz = j := by rw [Nat.mul_comm]; exact Nat.div_add_mod j sz
        rw [e2] at this
        have hc2 : w'.cell? (a.add j) = w.cell? (a.add j) := by simp [World.cell?, hw']
        rw [hc2]; exact hw.sure _ _ this
       ·rw [List.getElem?_eq_none (by simpa using hlt)] at hj; cases hj)
      rw [hl] at this
      simp [Builtin.firstCells, this]
    ·intro j c u h1 h2
     simp only [List.getElem?_map] at h1 h2
     cases hj : rows.flatten[j]? with
     | none => rw [hj] at h1; cases h1
     | some c' =>
      rw [hj] at h1; simp at h1; subst h1
      have hlt : j < rows.length * sz := by rw [← hflat rows hz]; exact (List.getElem?_eq_some_iff.1 hj).1
      rw [List.getElem?_range hlt] at h2
      simp at h2; subst h2
      obtain ⟨r, h3, h4⟩ := hget rows hz j _ hj
      exact .tv (hv _ _ r _ h3 h4)
    ·intro u hu
     simp only [List.mem_map, List.mem_range] at hu
     obtain ⟨q, hq, rfl⟩ := hu
     have hlt' : q < rows.flatten.length := by rw [hflat rows hz]; exact hq
     obtain ⟨r, h1, h2⟩ := hget rows hz q _ (List.getElem?_eq_getElem hlt')
     exact (VR.oneCell (σ := σ) (ι := ι) (.tv (hv _ _ r _ h1 h2)) rfl).1
  ·cases h
 ·cases he : tElem P xt with
  | none => rw [he] at h; cases h
  | some e' =>
   rw [he] at h; simp only [Option.map_some, Option.some.injEq, Prod.mk.injEq] at h; obtain ⟨rfl, rfl⟩ := h
   refine ⟨.inr ⟨_, tElem_some he⟩, fun w hw => ?_⟩
   cases hx with
   | tv hx => cases hx; exact ⟨fun _ => by simp [Builtin.lenOf], [], fun _ _ => by simp [Builtin.firstCells], VRs.nil _ _, by simp, fun u hu => by simp at hu⟩
 ·rename_i st
  split at h
  ·rename_i hc; obtain ⟨ht, rfl⟩ := hc
   simp only [Option.some.injEq, Prod.mk.injEq] at h; obtain ⟨rfl, rfl⟩ := h
   refine ⟨.inl (tStr_true ht), fun w hw => ?_⟩
   cases hx with
   | tv hx => cases hx with
   | str _ hsz =>
   refine ⟨fun _ => by simp [Builtin.lenOf], st.data.toList.map (fun b => Value.int .u8 b.toNat), ?_, ⟨by simp, ?_⟩, by simp, ?_⟩
   ·intro w' _
    have e1 : st.extract 0 st.size = st := by simp
    simp only [Builtin.firstCells, e1, Sem.run_pure]
    congr 1
    apply Array.toList_inj.1
    simp
   ·intro j c u h1 h2
    simp only [List.getElem?_map] at h1 h2
    cases hj : st.data.toList[j]? with
    | none => rw [hj] at h1; cases h1
    | some b => rw [hj] at h1 h2; simp at h1 h2; subst h1 h2; exact .tv (.int _ _)
   ·intro u hu
    simp only [List.mem_map] at hu
    obtain ⟨b, _, rfl⟩ := hu; rfl
  ·cases h
 ·rename_i i sz off len
  split at h
  ·rename_i hsz; subst hsz
   split at h
   ·rename_i cells ro hh
    split at h
    ·rename_i hcond
     obtain ⟨hl, hone⟩ := hcond
     cases he : tElem P xt with
     | none => rw [he] at h; cases h
     | some e' =>
      rw [he] at h; simp only [Option.map_some, Option.some.injEq, Prod.mk.injEq] at h; obtain ⟨rfl, rfl⟩ := h
      refine ⟨.inr ⟨_, tElem_some he⟩, fun w hw => ?_⟩
      cases hx with
      | sl0 _ _ _ A => exact ⟨fun _ => by simp [Builtin.lenOf], [], fun _ _ => by cases A <;> simp [Builtin.firstCells, loadCells, loadCellsFrom], by simpa using VRs.nil σ ι, by simp, fun u hu => by simp at hu⟩
      | sl _ _ _ _ b m' cap hi hc hn hm =>
      refine ⟨fun _ => by simp [Builtin.lenOf], ?_⟩
      have hc' : ∀ j c, ((cells.drop (off * sz)).take (len * sz))[j]? = some c → ∃ u, w.cell? ((⟨b, off * sz, none⟩ : Addr).add j) = some u ∧ VR σ ι c u := by
       intro j c hj
       rw [List.getElem?_take] at hj
       split at hj
       ·rw [List.getElem?_drop] at hj
        obtain ⟨u, h1, h2, _⟩ := hw.cell hh hi hj
        refine ⟨u, ?_, h2⟩
        rw [← h1, add_none]
       ·cases hj
      let us := (List.range (len * sz)).map fun j => (w.cell? ((⟨b, off * sz, none⟩ : Addr).add j)).getD undef
      have hvs : VRs σ ι ((cells.drop (off * sz)).take (len * sz)) us := by
       refine ⟨by simp [us, hl], fun j c u h1 h2 => ?_⟩
       obtain ⟨u', h3, h4⟩ := hc' j c h1
       simp only [us, List.getElem?_map] at h2
       have hlt := (List.getElem?_eq_some_iff.1 h1).1
       rw [hl] at hlt
       rw [List.getElem?_range hlt] at h2
       simp [h3] at h2; subst h2; exact h4
      refine ⟨us, ?_, hvs, hl, hvs.oneCells hone⟩
      have hul : us.length = len * sz := by simp [us]
      intro w' hw'
      have := run_loadCells_list (P := P) w' ⟨b, off * sz, none⟩ us (fun j v hj => by
       simp only [us, List.getElem?_map] at hj
       by_cases hlt : j < len * sz
       ·rw [List.getElem?_range hlt] at hj
        have hlt' : j < ((cells.drop (off * sz)).take (len * sz)).length := by rw [hl]; exact hlt
        obtain ⟨u', h3, h4⟩ := hc' j _ (List.getElem?_eq_getElem hlt')
        simp [h3] at hj; subst hj
        rw [← h3]; simp [World.cell?, hw']
       ·rw [List.getElem?_eq_none (by simpa using hlt)] at hj; cases hj)
      rw [hul] at this
      simp [Builtin.firstCells, this]
    ·cases h
   ·cases h
  ·cases h
 ·cases h

/-- The append itself, the source's cells at hand. -/
theorem append_room {st xt ty e : TypeId} {n m : Nat} {ux : Value} {unews : List Value} {base : Option Addr} {sLen sCap : Nat} (ht : P.underlying st = some (.slice e)) (hn : tSz P e = some n)
  (hxt : P.underlying xt = some .string ∨ ∃ e', P.underlying xt = some (.slice e')) (hlen : (Builtin.lenOf ux).run P w = .ok m w) (hcells : (Builtin.firstCells n m ux).run P w = .ok unews.toArray w) (hroom : sLen + m ≤ sCap) :
  (Builtin.append_ #[st, xt] ty #[.slice base sLen sCap, ux]).run P w = match base with
   | some a => ((storeCells (a.add (sLen * n)) unews).run P w).andThen fun _ w' => .ok (.slice base (sLen + m) sCap) w'
   | none => .ok (.slice none (sLen + m) sCap) w := by
 rcases hxt with hd | ⟨e', hd⟩
 all_goals
  cases base with
  | none => simp [Builtin.append_, run_underlying ht, run_underlying hd, run_sizeOf' hn, hlen, hcells, hroom]
  | some a => simp [Builtin.append_, run_underlying ht, run_underlying hd, run_sizeOf' hn, hlen, hcells, hroom]
theorem append_grow {st xt ty e : TypeId} {n m by' : Nat} {z : AV} {zc : List AV} {ux : Value} {uolds unews : List Value} {base : Option Addr} {sLen sCap : Nat} (ht : P.underlying st = some (.slice e)) (hn : tSz P e = some n) (hby : tBy P e = some by')
  (hz : tZero P e = some z) (hzc : z.cells = some zc) (hzl : zc.length = n)
  (hxt : P.underlying xt = some .string ∨ ∃ e', P.underlying xt = some (.slice e')) (hlen : (Builtin.lenOf ux).run P w = .ok m w) (hcells : (Builtin.firstCells n m ux).run P w.drew = .ok unews.toArray w.drew)
  (holds : (Builtin.firstCells n sLen (.slice base sLen sCap)).run P w.drew = .ok uolds.toArray w.drew) (hol : uolds.length = sLen * n) (hnl : unews.length = m * n)
  (hroom : sCap < sLen + m) (hmax : sLen + m ≤ 9223372036854775807) (hbytes : (sLen + m) * by' ≤ 140737488355328) :
  ∃ cap rest, sLen + m ≤ cap ∧ (uolds ++ unews ++ rest).length = cap * n ∧
   (Builtin.append_ #[st, xt] ty #[.slice base sLen sCap, ux]).run P w = .ok (.slice (some ⟨w.heap.size, 0, none⟩) (sLen + m) cap) (w.drew.alloc (.cells (uolds ++ unews ++ rest).toArray e)) := by
 obtain ⟨i, hi, rfl⟩ := tSz_some hn
 have hby' : i.bytes = by' := by
  unfold tBy at hby; rw [hi] at hby; simpa using hby
 subst hby'
 obtain ⟨zv, hzr, hzv⟩ := tZero_some hz
 obtain ⟨uz, huz, hvz⟩ := (hzv (fun _ _ => False) (fun _ => none)).cells hzc
 have hroom' : ¬ (sLen + m ≤ sCap) := by omega
 have hmax' : ¬ (9223372036854775807 < ((sLen : Int) + (m : Int))) := by omega
 have hfit : ¬ (281474976710656 < Builtin.nextslicecap (sLen + m) sCap * i.bytes) := by
  have := growslice_fits hroom hbytes
  omega
 have hge := grownCap_ge w (sLen + m) sCap e
 refine ⟨grownCap w (sLen + m) sCap e, (Builtin.zeroCells zv.cells (grownCap w (sLen + m) sCap e - (sLen + m))).toList, hge, ?_, ?_⟩
 ·have : zv.cells.size = i.size := by rw [huz]; simp [hvz.1, hzl]
  simp only [List.length_append, Array.length_toList, size_zeroCells, this, hol, hnl, ← Nat.add_mul]
  congr 1; omega
 ·have e1 : (uolds ++ unews ++ (Builtin.zeroCells zv.cells (grownCap w (sLen + m) sCap e - (sLen + m))).toList).toArray = uolds.toArray ++ (unews.toArray ++ Builtin.zeroCells zv.cells (grownCap w (sLen + m) sCap e - (sLen + m))) := by
   apply Array.toList_inj.1; simp
  rw [e1]
  rcases hxt with hd | ⟨e', hd⟩
  all_goals
   simp [Builtin.append_, run_underlying ht, run_underlying hd, run_sizeOf' hn, hlen, hroom', hmax', hfit, typeInfo, hi, Question.forced, holds, hcells, hzr, newRow, grownCap]
theorem sat_append {st xt ty : TypeId} {sv x : AV} {us ux : Value} (h : WR B w0 σ ι H w) (hid : ι id = none) (hsv : VR σ ι sv us) (hx : VR σ ι x ux)
  (hs : s = (do pure (.value (← Builtin.append_ #[st, xt] ty #[us, ux])))) : Sat P s w B w0 σ ι H id (evAppend P H id st xt sv x) := by
 subst hs
 unfold evAppend
 split
 ·rename_i e he
  have hu := tElem_some he
  split
  ·rename_i n by' z hn hby hz
   split
   ·rename_i zc hzc
    split
    ·rename_i hcond
     obtain ⟨hzl, hn0⟩ := hcond
     split
     ·rename_i news m hsrc
      obtain ⟨hxt, hsr⟩ := src_ok (B := B) (w0 := w0) hx hsrc trivial
      obtain ⟨hlen, unews, hcells, hvn, hnl, hone⟩ := hsr w h
      have hul : unews.length = m * n := by rw [hvn.1, hnl]
      -- a new row
      have grow : ∀ (olds : List AV) (uolds : List Value) (sLen sCap : Nat) (base : Option Addr) (ro : Bool) (H' : Hp), us = .slice base sLen sCap → VRs σ ι olds uolds → uolds.length = sLen * n →
        (∀ w' : World, w'.heap = w.heap → (Builtin.firstCells n sLen (.slice base sLen sCap)).run P w' = .ok uolds.toArray w') → sCap < sLen + m → sLen + m ≤ 9223372036854775807 → (sLen + m) * by' ≤ 140737488355328 →
        (∀ j o, hget H' j = some o → hget H j = some o) →
        ∃ u w', Runs P (do pure (.value (← Builtin.append_ #[st, xt] ty #[us, ux]))) w u w' ∧ After B w0 σ ι ((id, .row (olds ++ news) ro) :: H') id (.sl id n 0 (sLen + m)) u w' := by
       intro olds uolds sLen sCap base ro H' hus hvo hol holds hroom hmax hbytes hH'
       subst hus
       obtain ⟨cap, rest, hcap, hsz, hrun⟩ := append_grow (ty := ty) hu hn hby hz hzc hzl hxt (hlen w) (hcells w.drew rfl) (holds w.drew rfl) hol hul hroom hmax hbytes
       refine ⟨.slice (some ⟨w.heap.size, 0, none⟩) (sLen + m) cap, _, .inl (by simp only [Sem.run_bind, hrun, Result.andThen_ok, Sem.run_pure]; rfl), σ, wput ι id (some (w.heap.size, cap * n)), ?_, ?_, fun _ _ h => h, wput_le hid, fun j hj => wput_ne j hj⟩
       ·have := VR.sl (σ := σ) (ι := wput ι id (some (w.heap.size, cap * n))) id n 0 (sLen + m) w.heap.size (cap * n) cap wput_at hcap (by simp) hmax
        simpa using this
       ·have h' := (h.drew).weaken hH'
        refine h'.new id hid _ (cap * n) _ ⟨_, e, rfl, by simpa using hsz, ?_, fun j c hj => ?_⟩
        ·rw [List.length_append, ← hvo.1, ← hvn.1, hol, hul, ← Nat.add_mul]
         exact Nat.mul_le_mul_right _ hcap
        ·obtain ⟨u, hu1, hu2⟩ := (hvo.append hvn).get hj
         refine ⟨u, ?_, hu2.mono (fun _ _ h => h) (wput_le hid)⟩
         simp only [List.getElem?_toArray]
         rw [List.getElem?_append_left (by exact (List.getElem?_eq_some_iff.1 hu1).1)]
         exact hu1
      -- nothing is appended to nothing
      have none0 : ∀ (base : Option Addr) (ro : Bool) (H' : Hp), us = .slice base 0 0 → m = 0 → (∀ j o, hget H' j = some o → hget H j = some o) →
        ∃ u w', Runs P (do pure (.value (← Builtin.append_ #[st, xt] ty #[us, ux]))) w u w' ∧ After B w0 σ ι ((id, .row ([] ++ news) ro) :: H') id (.sl id n 0 m) u w' := by
       intro base ro H' hus hm hH'
       subst hus; subst hm
       have hnews : news = [] := List.eq_nil_of_length_eq_zero (by simpa using hnl)
       have hun : unews = [] := List.eq_nil_of_length_eq_zero (by simpa using hul)
       subst hnews; subst hun
       have hr := append_room (P := P) (w := w) (ty := ty) (base := base) (sLen := 0) (sCap := 0) hu hn hxt (hlen w) (hcells w rfl) (Nat.le_refl _)
       refine ⟨.slice base 0 0, w, .inl ?_, σ, _, .sl0 _ _ _ _, ((h.weaken hH').empty id hid ro), fun _ _ h => h, wput_le hid, fun j hj => wput_ne j hj⟩
       cases base with
       | none => simp only [Sem.run_bind, hr, Result.andThen_ok, Sem.run_pure]
       | some a => simp only [Sem.run_bind, hr, storeCells, Result.andThen_ok, Sem.run_pure]
      split
      ·intro ⟨hm1, hm2⟩
       cases hsv with
       | tv hsv => cases hsv with
       | nils =>
       by_cases hm : m = 0
       ·obtain ⟨u, w', g1, g2⟩ := none0 none false H rfl hm (fun _ _ h => h)
        exact ⟨u, w', g1, by simp only [List.nil_append] at g2; exact g2⟩
       ·obtain ⟨u, w', g1, g2⟩ := grow [] [] 0 0 none false H rfl (VRs.nil _ _) (by simp) (fun w' _ => by simp [Builtin.firstCells]) (by omega) (by omega) (by simpa using hm2) (fun _ _ h => h)
        exact ⟨u, w', g1, by simp only [List.nil_append, Nat.zero_add] at g2; exact g2⟩
      ·rename_i i sz off len
       split
       ·rename_i cells ro hh
        intro ⟨e1, e2, hcl, hmax, hbytes⟩
        subst e1; subst e2
        have hdel' : ∀ j o, hget (hdel H i) j = some o → hget H j = some o := by
         intro j o hj; rw [hget_hdel] at hj; split at hj
         ·cases hj
         ·exact hj
        cases hsv with
        | sl0 _ _ _ A =>
         have hc0 : cells = [] := List.eq_nil_of_length_eq_zero (by simpa using hcl)
         subst hc0
         by_cases hm : m = 0
         ·obtain ⟨u, w', g1, g2⟩ := none0 A ro (hdel H i) rfl hm hdel'
          exact ⟨u, w', g1, by simp only [Nat.zero_add]; exact g2⟩
         ·obtain ⟨u, w', g1, g2⟩ := grow [] [] 0 0 A ro (hdel H i) rfl (VRs.nil _ _) (by simp) (fun w' _ => by cases A <;> simp [Builtin.firstCells, loadCells, loadCellsFrom]) (by omega) (by omega) (by simpa using hbytes) hdel'
          exact ⟨u, w', g1, g2⟩
        | sl _ _ _ _ b n' cap hi hc hn' hm =>
         obtain ⟨hBb, obj, hw, arr, e', rfl, ha, hle, hcs⟩ := h.obj _ _ _ _ hh hi
         have hn'' : cap * sz ≤ n' := by simpa using hn'
         simp only [Nat.zero_mul] at *
         let uolds := (List.range (len * sz)).map fun j => (arr[j]?).getD undef
         have hvo : VRs σ ι cells uolds := by
          refine ⟨by simp [uolds, hcl], fun j c u h1 h2 => ?_⟩
          have hlt := (List.getElem?_eq_some_iff.1 h1).1
          rw [hcl] at hlt
          obtain ⟨u', h3, h4⟩ := hcs j c h1
          simp only [uolds, List.getElem?_map] at h2
          rw [List.getElem?_range hlt] at h2
          simp [h3] at h2; subst h2; exact h4
         have hol : uolds.length = len * sz := by simp [uolds]
         by_cases hroom : len + m ≤ cap
         ·have hr := append_room (P := P) (w := w) (ty := ty) (base := some ⟨b, 0, none⟩) hu hn hxt (hlen w) (hcells w rfl) hroom
          have hfits : len * sz + m * sz ≤ n' := by
           rw [← Nat.add_mul]; exact Nat.le_trans (Nat.mul_le_mul_right _ hroom) hn''
          have hst := run_storeCells_at P b (len * sz) e' unews 0 arr w hw (by omega) hone
          simp only [Nat.add_zero] at hst
          simp only [add_none, Nat.zero_add] at hr
          -- the block, written behind its cells
          have hwr : WR B w0 σ ι (hset H i (.row (cells ++ news) ro)) (w.setRow b (spliceG arr.toList (len * sz) unews).toArray) := by
           refine h.write hh hi _ (setRow_heap w b arr _ e' _ hw) ⟨_, e', rfl, ?_, ?_, fun j c hj => ?_⟩ (fun k hk => setRow_other w b k _ hk) (by simp) rfl rfl rfl ?_
           ·simp only [List.size_toArray]; rw [splice_length _ _ _ (by simp; omega)]; simpa using ha
           ·rw [List.length_append, hcl, hnl]; exact hfits
           ·simp only [List.getElem?_toArray]
            rw [spliceG_get _ _ _ (by simp; omega)]
            rw [List.getElem?_append] at hj
            split at hj
            ·rename_i hlt
             rw [if_pos (by omega)]
             obtain ⟨u, hu1, hu2⟩ := hcs j c hj
             exact ⟨u, by simpa using hu1, hu2⟩
            ·rename_i hge
             have hlt := (List.getElem?_eq_some_iff.1 hj).1
             rw [if_neg (by omega), if_pos (by omega)]
             rw [hcl] at hj
             exact hvn.get hj
           ·intro a v hs hb
            obtain ⟨cs', he', hlt⟩ := h.stab a v hs i _ b n' hh hi hb
            cases he'
            have hc1 := h.sure a v hs
            refine ⟨?_, _, rfl, by rw [List.length_append]; omega⟩
            have hsp : a.spot = none := by
             cases hsp : a.spot with
             | none => rfl
             | some x => simp [World.cell?, hb, hw, hsp] at hc1
            have ea : a = ⟨b, a.off, none⟩ := by cases a; simp at hb hsp ⊢; exact ⟨hb, hsp⟩
            rw [ea] at hc1 ⊢
            rw [cell_setRow_same w b _ arr _ e' _ hw]
            simp only [List.getElem?_toArray]
            rw [spliceG_get _ _ _ (by simp; omega), if_pos (by omega)]
            simp [World.cell?, hw] at hc1
            simpa using hc1
          have hren := hwr.rename (id := id) (i := i) (o := .row (cells ++ news) ro) (by rw [hget_hset]; simp [hh]) hi hid
          rw [hdel_hset] at hren
          refine ⟨.slice (some ⟨b, 0, none⟩) (len + m) cap, _, .inl ?_, σ, wput ι id (some (b, n')), ?_, hren, fun _ _ h => h, wput_le hid, fun j hj => wput_ne j hj⟩
          ·simp only [Sem.run_bind, hr, hst, Result.andThen_ok, Sem.run_pure, spliceG]
          ·have := VR.sl (σ := σ) (ι := wput ι id (some (b, n'))) id sz 0 (len + m) b n' cap wput_at hroom (by simpa using hn'') hmax
           simpa using this
         ·have holds : ∀ w' : World, w'.heap = w.heap → (Builtin.firstCells sz len (.slice (some ⟨b, 0, none⟩) len cap)).run P w' = .ok uolds.toArray w' := by
           intro w' hw'
           have := run_loadCells_list (P := P) w' ⟨b, 0, none⟩ uolds (fun j v hj => by
            have hlt := (List.getElem?_eq_some_iff.1 hj).1
            rw [hol] at hlt
            simp only [uolds, List.getElem?_map] at hj
            rw [List.getElem?_range hlt] at hj
            have hlt2 : j < arr.size := by omega
            simp [hlt2] at hj; subst hj
            rw [add_none]
            simp [World.cell?, hw', hw, hlt2])
           rw [hol] at this
           simp [Builtin.firstCells, this]
          exact grow cells uolds len cap (some ⟨b, 0, none⟩) ro (hdel H i) rfl hvo hol holds (by omega) hmax hbytes hdel'
       ·trivial
      ·trivial
     ·trivial
    ·trivial
   ·trivial
  ·trivial
 ·trivial
end
end Go.Proofs.YtphmhelkojdlaaaDoor
namespace Go.Proofs.YtphmhelkojdlaaaDoor
open Go.RowKit
set_option linter.unusedSimpArgs false
set_option linter.unusedVariables false
def evConv (P : Program) (src dst : TypeId) (x : AV) : Res := match tInt P src, x with
 | some _, .tv (.int _ n) => match tInt P dst with
  | some k => vint k (k.wrap n)
  | none => .fail
 | _, .tv (.str s) => if tStr P src && tStr P dst then .val (.tv (.str s)) .no else
   if tStr P src && decide ((tElem P dst).bind (tInt P) = some .u8) then .val (.tv (.sli 1 (chunk 1 s.size (s.data.toList.map fun b => TV.int .u8 (b.toNat : Int))))) .no else .fail
 | _, _ => .fail
def evMin (x y : AV) : Res := match x, y with
 | .tv (.int k a), .tv (.int _ b) => vint k (if b < a then b else a)
 | _, _ => .fail
def evMax (x y : AV) : Res := match x, y with
 | .tv (.int k a), .tv (.int _ b) => vint k (if b > a then b else a)
 | _, _ => .fail
def evFunc (fn : Fn) (first : Array Operand) (cap : List AV) : Res := if first.size = 0 then (match fn, cap with
 | .func f, [] => .val (.tv (.fn f)) .no
 | fn, cap => .val (.fn fn cap) .no) else .fail
def evCallV (P : Program) (f : AV) (args : List AV) : Res := match f with
 | .tv (.fn k) => if tFn P k then .call k args else .fail
 | .fn (.func k) cap => if tFn P k then .call k (args ++ cap) else .fail
 | .yl id => .yld id args
 | _ => .fail
def evCheck (x : AV) : Res := match x with
 | .ptr i o => .val (.ptr i o) .no
 | .tv (.ptr cs) => .val (.tv (.ptr cs)) .no
 | .tv (.fn k) => .val (.tv (.fn k)) .no
 | .fn (.func k) cap => .val (.fn (.func k) cap) .no
 | _ => .fail
def evExtract (x : AV) (i : Nat) : Res := match x with
 | .tup vs => match vs[i]? with
  | some v => .val v .no
  | none => .fail
 | _ => .fail
def evPick (c a b : AV) : Res := match c with
 | .tv (.bool c) => .val (bif c then a else b) .no
 | _ => .fail
def evCall (P : Program) (T : Tm) (H : Hp) (id : Id) (c : Call) : Res := match c.callee with
 | .builtin .len => match c.args.toList, c.argTypes.toList with
  | [x], [t] => evLen P H t (evo T x)
  | _, _ => .fail
 | .builtin .append => match c.args.toList, c.argTypes.toList with
  | [s, x], [st, xt] => evAppend P H id st xt (evo T s) (evo T x)
  | _, _ => .fail
 | .builtin .min => match c.args.toList with
  | [x, y] => evMin (evo T x) (evo T y)
  | _ => .fail
 | .builtin .max => match c.args.toList with
  | [x, y] => evMax (evo T x) (evo T y)
  | _ => .fail
 | .value f => evCallV P (evo T f) (c.args.toList.map (evo T))
 | _ => .fail
/-- Against a literal nil of an interface type. -/
def nilC : Operand → Bool
 | .const .nilIface => true
 | _ => false
def tIfc (P : Program) (t : TypeId) : Bool := match P.underlying t with
 | some (.interface _) => true
 | _ => false
def evNilI (P : Program) (op : BinOp) (t : TypeId) (x : AV) : Res := match tIfc P t with
 | true => match x with
  | .tv .nili => (match op with
   | .eql => vbool true
   | .neq => vbool false
   | _ => .fail)
  | .iface _ _ => (match op with
   | .eql => vbool false
   | .neq => vbool true
   | _ => .fail)
  | _ => .fail
 | false => .fail
def evBinO (P : Program) (op : BinOp) (t : TypeId) (x y : AV) (n : Bool) : Res := match n with
 | true => evNilI P op t x
 | false => evBin P op t x y
def evMkI (P : Program) (t : TypeId) (x : AV) : Res := match P.concrete t && AV.one x with
 | true => .val (.iface t x) .no
 | false => .fail
theorem tIfc_true {P : Program} {t : TypeId} (h : tIfc P t = true) : P.underlying t = some (.interface (P.methodsAt t)) := by
 unfold tIfc at h
 unfold Program.methodsAt
 split at h
 ·rename_i ms e; rw [e]
 ·cases h
def evOp (P : Program) (T : Tm) (H : Hp) (id : Id) : Op → Res
 | .move x => .val (evo T x) .no
 | .assign x => .val (evo T x) .no
 | .pick c a b => evPick (evo T c) (evo T a) (evo T b)
 | .alloc t => match tZero P t with | some z => evNew id z | none => .fail
 | .box _ x => evNew id (evo T x)
 | .build t parts => evBuild' P t (parts.toList.map fun p => (p.1, evo T p.2))
 | .buildSlice t len parts => evBuildSlice' P id t len (parts.toList.map fun p => (p.1, evo T p.2))
 | .load t a => evLoad P H t (evo T a)
 | .store t a v => evStore P H t (evo T a) (evo T v)
 | .nilCheck x => evCheck (evo T x)
 | .binOp op t x y _ => evBinO P op t (evo T x) (evo T y) (nilC y)
 | .unOp op _ x => evUn op (evo T x)
 | .convert src dst x => evConv P src dst (evo T x)
 | .makeFunc fn first cap => evFunc fn first (cap.toList.map (evo T))
 | .makeInterface t x => evMkI P t (evo T x)
 | .makeMap _ none => .val (.map id) (.new (.smap []))
 | .slice t x lo hi none => evSlice P t (evo T x) (lo.map (evo T)) (hi.map (evo T))
 | .fieldAddr s x f => evField P s (evo T x) f
 | .field s x f => evFieldV P s (evo T x) f
 | .indexAddr t x i => evIndexAddr P t (evo T x) (evo T i)
 | .index t x i => evIndex P t (evo T x) (evo T i)
 | .lookup t m k c => evLookup P H t (evo T m) (evo T k) c
 | .mapUpdate t m k v => evMapUpdate P H t (evo T m) (evo T k) (evo T v)
 | .extract t i => evExtract (evo T t) i
 | .call c => evCall P T H id c
 | _ => .fail
/-- The literals of an operation are short. -/
def opOk (o : Oper) : Bool := o.op.operands.toList.all opdOk

section
variable {P : Program} {B : Base} {w0 w : World} {σ : Facts} {ι : Where} {H : Hp} {id : Id} {T : Tm} {a : Act}
theorem tInt_some {t : TypeId} {k : IntKind} (h : tInt P t = some k) : P.underlying t = some (.int k) := by
 unfold tInt at h; split at h
 ·simp at h; subst h; assumption
 ·cases h
theorem evos_ok (hT : TRel σ ι T a.tmps) (xs : List Operand) (hx : xs.all opdOk = true) : VRs σ ι (xs.map (evo T)) (xs.map a.eval) := by
 induction xs with
 | nil => exact VRs.nil _ _
 | cons x xs ih =>
  simp only [List.all_cons, Bool.and_eq_true] at hx
  exact VRs.cons (evo_ok hT x hx.1) (ih hx.2)
theorem parts_ok (hT : TRel σ ι T a.tmps) (ps : Array (Nat × Operand)) (hx : (ps.toList.map (·.2)).all opdOk = true) :
  (ps.map fun (i, x) => (i, a.eval x)).toList.map (·.1) = (ps.toList.map fun p => (p.1, evo T p.2)).map (·.1) ∧
  VRs σ ι ((ps.toList.map fun p => (p.1, evo T p.2)).map (·.2)) ((ps.map fun (i, x) => (i, a.eval x)).toList.map (·.2)) := by
 refine ⟨by simp, ?_⟩
 have := evos_ok hT (ps.toList.map (·.2)) hx
 simp only [List.map_map, Array.toList_map] at this ⊢
 exact this
theorem ovr_ok (hT : TRel σ ι T a.tmps) (x : Option Operand) (hx : ∀ y, x = some y → opdOk y = true) : OVR σ ι (x.map (evo T)) (x.map a.eval) := by
 cases x with
 | none => trivial
 | some y => exact evo_ok hT y (hx y rfl)
theorem callFunc_run {k : FuncId} (hk : tFn P k = true) (us : Array Value) : (callFunc k us).run P w = .ok (.enter k us) w := by
 unfold tFn at hk
 cases hf : P.funcs[k]? with
 | none => rw [hf] at hk; cases hk
 | some fn =>
  rw [hf] at hk
  simp only [Bool.and_eq_true, Bool.not_eq_true'] at hk
  obtain ⟨h1, h2⟩ := hk
  have h1' : ¬ (fn.name = "runtime.NumGoroutine") := by
   intro e; rw [e] at h1; simp at h1
  have h2' : ¬ (fn.body = none) := by
   intro e; rw [e] at h2; simp at h2
  simp [callFunc, hf, h1', h2']
theorem evOp_sound {o : Oper} (h : WR B w0 σ ι H w) (hT : TRel σ ι T a.tmps) (hid : ι id = none) (hok : opOk o = true) :
  Sat P (execOp a.eval o) w B w0 σ ι H id (evOp P T H id o.op) := by
 obtain ⟨dst, op, type, pos, after, guard⟩ := o
 simp only [opOk] at hok
 cases op with
 | move x => exact Sat.pure h rfl (evo_ok hT x (by simpa [Op.operands] using hok))
 | assign x => exact Sat.pure h rfl (evo_ok hT x (by simpa [Op.operands] using hok))
 | pick c x y =>
  simp [Op.operands] at hok
  show Sat P _ w B w0 σ ι H id (evPick (evo T c) (evo T x) (evo T y))
  unfold evPick
  have hc := evo_ok hT c hok.1
  split
  ·rename_i b e
   rw [e] at hc
   have hcb : a.eval c = .bool b := by
    generalize a.eval c = u at hc
    cases hc with | tv hc => cases hc; rfl
   refine Sat.pure h (u := if b then a.eval x else a.eval y) ?_ ?_
   ·simp [execOp, hcb, asBool]
   ·cases b
    ·exact evo_ok hT y hok.2.2
    ·exact evo_ok hT x hok.2.1
  ·trivial
 | alloc t =>
  show Sat P _ w B w0 σ ι H id (match tZero P t with | some z => evNew id z | none => .fail)
  split
  ·rename_i z hz
   obtain ⟨zv, hzr, hzv⟩ := tZero_some hz
   refine sat_new (t := t) h hid (hzv σ ι) ?_
   simp only [execOp, Instr.alloc, Sem.run_bind, hzr, Result.andThen_ok, Sem.run_pure, newVar, newRow, run_newObj]
   rfl
  ·trivial
 | box t x =>
  refine sat_new (t := t) h hid (evo_ok hT x (by simpa [Op.operands] using hok)) ?_
  simp only [execOp, Instr.box, Sem.run_bind, Result.andThen_ok, Sem.run_pure, newVar, newRow, run_newObj]
  rfl
 | build t parts =>
  have hp := parts_ok hT parts (by simpa [Op.operands] using hok)
  exact sat_build h hp.1 hp.2 rfl
 | buildSlice t len parts =>
  have hp := parts_ok hT parts (by simpa [Op.operands] using hok)
  exact sat_buildSlice h hid hp.1 hp.2 rfl
 | load t x => exact sat_load h (evo_ok hT x (by simpa [Op.operands] using hok)) rfl
 | store t x v =>
  simp [Op.operands] at hok
  exact sat_store h (evo_ok hT x hok.1) (evo_ok hT v hok.2) rfl
 | nilCheck x =>
  have hx := evo_ok hT x (by simpa [Op.operands] using hok)
  show Sat P _ w B w0 σ ι H id (evCheck (evo T x))
  generalize evo T x = v at hx
  unfold evCheck
  split
  ·have hx' := hx
   generalize hu : a.eval x = u at hx hx'
   cases hx with
   | ptr _ _ b n hi => exact Sat.pure h (by simp [execOp, hu]) hx'
  ·have hx' := hx
   generalize hu : a.eval x = u at hx hx'
   cases hx with
   | tv hx => cases hx; exact Sat.pure h (by simp [execOp, hu]) hx'
  ·have hx' := hx
   generalize hu : a.eval x = u at hx hx'
   cases hx with
   | tv hx => cases hx; exact Sat.pure h (by simp [execOp, hu]) hx'
  ·have hx' := hx
   generalize hu : a.eval x = u at hx hx'
   cases hx with
   | fn _ _ us hl hv => exact Sat.pure h (by simp [execOp, hu]) hx'
  ·trivial
 | binOp op t x y yt =>
  simp [Op.operands] at hok
  show Sat P _ w B w0 σ ι H id (evBinO P op t (evo T x) (evo T y) (nilC y))
  cases hn : nilC y with
  | false => exact sat_bin h (evo_ok hT x hok.1) (evo_ok hT y hok.2) rfl
  | true =>
   have hy : y = .const .nilIface := by
    unfold nilC at hn
    split at hn
    ·rfl
    ·cases hn
   subst hy
   have hx := evo_ok hT x hok.1
   show Sat P _ w B w0 σ ι H id (evNilI P op t (evo T x))
   have hev : a.eval (.const .nilIface) = .nilIface := rfl
   unfold evNilI
   split
   ·rename_i ht
    have hi := tIfc_true ht
    split
    ·rename_i e
     rw [e] at hx
     have hux : a.eval x = .nilIface := by
      generalize a.eval x = u at hx
      cases hx with | tv hx => cases hx; rfl
     have hg : ∀ (p : Sem Value), (do pure (Next.value (← (do eqGuard op t x (.const .nilIface) .nilIface .nilIface; p))) : Sem Next).run P w = (do pure (Next.value (← p)) : Sem Next).run P w := by
      intro p
      have : (eqGuard op t x (.const .nilIface) .nilIface .nilIface).run P w = .ok () w := by
       unfold eqGuard; split <;> simp
      simp [this]
     split
     ·refine Sat.pure h (u := .bool true) ?_ (.tv (.bool _))
      simp only [execOp, hux, hev]
      rw [hg]; simp [run_eql_nil_nil w t hi]
     ·refine Sat.pure h (u := .bool false) ?_ (.tv (.bool _))
      simp only [execOp, hux, hev]
      rw [hg]; simp [run_neq_nil_nil w t hi]
     ·trivial
    ·rename_i tt v e
     rw [e] at hx
     obtain ⟨uv, hux⟩ : ∃ uv, a.eval x = .iface tt uv := by
      generalize a.eval x = u at hx
      cases hx with | iface _ _ u _ => exact ⟨u, rfl⟩
     have hg : ∀ (p : Sem Value), (do pure (Next.value (← (do eqGuard op t x (.const .nilIface) (.iface tt uv) .nilIface; p))) : Sem Next).run P w = (do pure (Next.value (← p)) : Sem Next).run P w := by
      intro p
      have : (eqGuard op t x (.const .nilIface) (.iface tt uv) .nilIface).run P w = .ok () w := by
       unfold eqGuard; split <;> simp
      simp [this]
     split
     ·refine Sat.pure h (u := .bool false) ?_ (.tv (.bool _))
      simp only [execOp, hux, hev]
      rw [hg]; simp [run_eql_held_nil w t tt uv hi]
     ·refine Sat.pure h (u := .bool true) ?_ (.tv (.bool _))
      simp only [execOp, hux, hev]
      rw [hg]; simp [run_neq_held_nil w t tt uv hi]
     ·trivial
    ·trivial
   ·trivial
 | makeInterface t x =>
  have hx := evo_ok hT x (by simpa [Op.operands] using hok)
  show Sat P _ w B w0 σ ι H id (evMkI P t (evo T x))
  unfold evMkI
  split
  ·rename_i hc
   simp only [Bool.and_eq_true] at hc
   exact Sat.pure h (u := .iface t (a.eval x)) (by simp [execOp, run_makeInterface w t _ hc.1]) (.iface _ _ _ hx)
  ·trivial
 | unOp op t x => exact sat_un h (evo_ok hT x (by simpa [Op.operands] using hok)) rfl
 | convert src dst x =>
  have hx := evo_ok hT x (by simpa [Op.operands] using hok)
  show Sat P _ w B w0 σ ι H id (evConv P src dst (evo T x))
  generalize evo T x = v at hx
  unfold evConv
  split
  ·rename_i ks k n hs
   split
   ·rename_i kd hd
    refine sat_run h (.tv (.int _ _)) ?_
    have : a.eval x = .int k n := by
     generalize a.eval x = u at hx
     cases hx with | tv hx => cases hx; rfl
    simp [convert, this, run_underlying (tInt_some hs), run_underlying (tInt_some hd), Conv.intToInt]
   ·trivial
  ·rename_i s
   split
   ·rename_i hc
    simp only [Bool.and_eq_true] at hc
    have hx' := hx
    have : a.eval x = .string s := by
     generalize a.eval x = u at hx
     cases hx with | tv hx => cases hx; rfl
    rw [this] at hx'
    refine sat_run h hx' ?_
    simp [convert, this, run_underlying (tStr_true hc.1), run_underlying (tStr_true hc.2)]
   ·split
    ·rename_i hc
     simp only [Bool.and_eq_true, decide_eq_true_eq] at hc
     obtain ⟨hc1, hc2⟩ := hc
     cases he : tElem P dst with
     | none => rw [he] at hc2; cases hc2
     | some e =>
     rw [he] at hc2
     simp only [Option.bind_some] at hc2
     have hsz : s.size ≤ 9223372036854775807 := by
      generalize a.eval x = u at hx
      cases hx with | tv hx => cases hx; assumption
     have : a.eval x = .string s := by
      generalize a.eval x = u at hx
      cases hx with | tv hx => cases hx; rfl
     have hrun := run_bytes_of_string w src dst e s (tStr_true hc1) (tElem_some he) (tInt_some hc2)
     generalize hcap : grownCap w s.size 0 e = cap at hrun
     have hge : s.size ≤ cap := by rw [← hcap]; exact grownCap_ge w s.size 0 e
     generalize hob : (Obj.cells (bytesRow s cap) e ((bytesRow s cap).size, (bytesRow s cap).size + 1)) = ob at hrun
     have hju := h.drew.junk ob
     have hhs : w.drew.heap.size = w.heap.size := rfl
     have hcell : ∀ j c, (s.data.toList.map fun b => TV.int .u8 (b.toNat : Int))[j]? = some c → ∃ u, (w.drew.alloc ob).cell? ⟨w.heap.size, j, none⟩ = some u ∧ TR σ c u := by
      intro j c hj
      rw [List.getElem?_map] at hj
      cases hb : s.data.toList[j]? with
      | none => rw [hb] at hj; cases hj
      | some b =>
       rw [hb] at hj; cases hj
       refine ⟨.int .u8 (b.toNat : Int), ?_, .int _ _⟩
       subst hob
       have h1 : (w.drew.alloc (.cells (bytesRow s cap) e ((bytesRow s cap).size, (bytesRow s cap).size + 1))).cell? ⟨w.heap.size, j, none⟩ = (bytesRow s cap)[j]? := by
        have h2 : (w.drew.alloc (.cells (bytesRow s cap) e ((bytesRow s cap).size, (bytesRow s cap).size + 1))).heap[w.heap.size]? = some (.cells (bytesRow s cap) e ((bytesRow s cap).size, (bytesRow s cap).size + 1)) := by
         show (w.heap.push _)[w.heap.size]? = _
         simp
        simp only [World.cell?, h2]
        rfl
       rw [h1]
       unfold bytesRow
       have hlt : j < s.data.toList.length := (List.getElem?_eq_some_iff.1 hb).1
       rw [Array.getElem?_append_left (by simpa using hlt)]
       simp only [Array.getElem?_map]
       have : s.data[j]? = some b := by rw [← hb]; simp
       rw [this]; rfl
     have hnew : WR B w0 (fun a v => σ a v ∨ (a.block = w.heap.size ∧ (w.drew.alloc ob).cell? a = some v)) ι H (w.drew.alloc ob) := by
      refine ⟨hju.hB, hju.below, fun j o b m hj hi => ?_, hju.ghost, hju.dom, hju.inj, fun a v hs => ?_, fun a v hs j o b m hj hi hb => ?_, fun a v hs => hs.elim (h.newf a v) (fun hs => .inr (by rw [hs.1]; exact h.fresh))⟩
      ·obtain ⟨hb, obj, hw, hor⟩ := hju.obj j o b m hj hi
       exact ⟨hb, obj, hw, hor.mono (fun _ _ h => .inl h) (fun _ _ h => h)⟩
      ·rcases hs with hs | ⟨_, hs⟩
       ·exact hju.sure a v hs
       ·exact hs
      ·rcases hs with hs | ⟨hs, _⟩
       ·exact hju.stab a v hs j o b m hj hi hb
       ·have := h.lt hj hi; omega
     have hval : TR (fun a v => σ a v ∨ (a.block = w.heap.size ∧ (w.drew.alloc ob).cell? a = some v)) (.sli 1 (chunk 1 s.size (s.data.toList.map fun b => TV.int .u8 (b.toNat : Int)))) (.slice (some ⟨w.heap.size, 0, none⟩) s.size cap) :=
      TR.ofCells (us := fun j => ((w.drew.alloc ob).cell? ⟨w.heap.size, j, none⟩).getD undef) (by rw [List.length_map, Nat.mul_one]; rfl) hge hsz (fun j c hj => by
       obtain ⟨u, hu1, hu2⟩ := hcell j c hj
       have e1 : ((w.drew.alloc ob).cell? ⟨w.heap.size, j, none⟩).getD undef = u := by rw [hu1]; rfl
       refine ⟨?_, .inr ⟨rfl, ?_⟩⟩
       ·show TR _ c (((w.drew.alloc ob).cell? ⟨w.heap.size, j, none⟩).getD undef)
        rw [e1]; exact hu2.mono (fun _ _ h => .inl h)
       ·show _ = some (((w.drew.alloc ob).cell? ⟨w.heap.size, j, none⟩).getD undef)
        rw [e1]; exact hu1)
     exact ⟨_, _, .inl (by simp [execOp, this, hrun]), _, ι, .tv hval, hnew, fun _ _ h => .inl h, fun _ _ h => h, fun _ _ => rfl⟩
    ·trivial
  ·trivial
 | makeFunc fn first cap =>
  show Sat P _ w B w0 σ ι H id (evFunc fn first (cap.toList.map (evo T)))
  unfold evFunc
  split
  ·rename_i h0
   have hf : first = #[] := by
    apply Array.eq_empty_of_size_eq_zero h0
   subst hf
   have hv : VRs σ ι (cap.toList.map (evo T)) (cap.toList.map a.eval) := evos_ok hT _ (by simpa [Op.operands] using hok)
   split
   ·rename_i f e
    have hc : cap.toList = [] := by simpa using e
    have hc' : cap = #[] := by apply Array.toList_inj.1; simpa using hc
    subst hc'
    exact Sat.pure h (u := .func (.func f) #[] #[]) (by simp [execOp, Instr.makeFunc]) (.tv (.fn f))
   ·rename_i fn' _ _
    refine Sat.pure h (u := .func _ #[] (cap.toList.map a.eval).toArray) ?_ (.fn _ _ _ hv.1 hv.2)
    have : (cap.map a.eval) = (cap.toList.map a.eval).toArray := by apply Array.toList_inj.1; simp
    simp [execOp, Instr.makeFunc, this]
  ·trivial
 | makeMap t r =>
  cases r with
  | none => exact sat_makeMap h hid rfl
  | some r => trivial
 | slice t x lo hi mx =>
  cases mx with
  | none =>
   simp [Op.operands] at hok
   refine sat_slice h (evo_ok hT x hok.1) (ovr_ok hT lo (fun y hy => ?_)) (ovr_ok hT hi (fun y hy => ?_)) rfl
   ·exact hok.2.1 y hy
   ·exact hok.2.2 y hy
  | some r => trivial
 | fieldAddr t x f => exact sat_field h (evo_ok hT x (by simpa [Op.operands] using hok)) rfl
 | field t x f => exact sat_fieldV h (evo_ok hT x (by simpa [Op.operands] using hok)) rfl
 | indexAddr t x i =>
  simp [Op.operands] at hok
  exact sat_indexAddr h (evo_ok hT x hok.1) (evo_ok hT i hok.2) rfl
 | index t x i =>
  simp [Op.operands] at hok
  exact sat_index h (evo_ok hT x hok.1) (evo_ok hT i hok.2) rfl
 | lookup t m k c =>
  simp [Op.operands] at hok
  exact sat_lookup h (evo_ok hT m hok.1) (evo_ok hT k hok.2) rfl
 | mapUpdate t m k v =>
  simp [Op.operands] at hok
  exact sat_mapUpdate h (evo_ok hT m hok.1) (evo_ok hT k hok.2.1) (evo_ok hT v hok.2.2) rfl
 | extract t i =>
  have hx := evo_ok hT t (by simpa [Op.operands] using hok)
  show Sat P _ w B w0 σ ι H id (evExtract (evo T t) i)
  generalize evo T t = v at hx
  unfold evExtract
  split
  ·rename_i vs
   split
   ·rename_i v hv
    generalize hu : a.eval t = u at hx
    cases hx with
    | tup _ us hl hvs =>
    obtain ⟨u, h1, h2⟩ := VRs.get ⟨hl, hvs⟩ hv
    exact Sat.pure h (u := u) (by simp [execOp, hu, Instr.extract, h1]) h2
   ·trivial
  ·trivial
 | call c =>
  obtain ⟨callee, args, argTypes⟩ := c
  show Sat P _ w B w0 σ ι H id (evCall P T H id ⟨callee, args, argTypes⟩)
  simp only [Op.operands, Call.operands] at hok
  cases callee with
  | invoke r n => trivial
  | builtin b =>
   have hargs : args.toList.all opdOk = true := by simpa using hok
   cases b <;> try trivial
   case append =>
    simp only [evCall]
    split
    ·rename_i s x st xt e1 e2
     have ha : args = #[s, x] := Array.toList_inj.1 e1
     have ht : argTypes = #[st, xt] := Array.toList_inj.1 e2
     subst ha ht
     simp at hargs
     exact sat_append (ty := type) h hid (evo_ok hT s hargs.1) (evo_ok hT x hargs.2) (by simp [execOp, resolve, invoke, builtin])
    ·trivial
   case len =>
    simp only [evCall]
    split
    ·rename_i x t e1 e2
     have ha : args = #[x] := Array.toList_inj.1 e1
     have ht : argTypes = #[t] := Array.toList_inj.1 e2
     subst ha ht
     simp at hargs
     exact sat_len (ty := type) h (evo_ok hT x hargs) (by simp [execOp, resolve, invoke, builtin])
    ·trivial
   case min =>
    simp only [evCall]
    split
    ·rename_i x y e1
     have ha : args = #[x, y] := Array.toList_inj.1 e1
     subst ha
     simp at hargs
     have hx := evo_ok hT x hargs.1
     have hy := evo_ok hT y hargs.2
     unfold evMin
     split
     ·rename_i k n k' m e1 e2
      rw [e1] at hx; rw [e2] at hy
      have e3 : a.eval x = .int k n := by
       generalize a.eval x = u at hx
       cases hx with | tv hx => cases hx; rfl
      have e4 : a.eval y = .int k' m := by
       generalize a.eval y = u at hy
       cases hy with | tv hy => cases hy; rfl
      refine Sat.pure h (u := .int k (if m < n then m else n)) ?_ (.tv (.int _ _))
      simp [execOp, resolve, invoke, builtin, e3, e4, Builtin.min_, Builtin.min2]
     ·trivial
    ·trivial
   case max =>
    simp only [evCall]
    split
    ·rename_i x y e1
     have ha : args = #[x, y] := Array.toList_inj.1 e1
     subst ha
     simp at hargs
     have hx := evo_ok hT x hargs.1
     have hy := evo_ok hT y hargs.2
     unfold evMax
     split
     ·rename_i k n k' m e1 e2
      rw [e1] at hx; rw [e2] at hy
      have e3 : a.eval x = .int k n := by
       generalize a.eval x = u at hx
       cases hx with | tv hx => cases hx; rfl
      have e4 : a.eval y = .int k' m := by
       generalize a.eval y = u at hy
       cases hy with | tv hy => cases hy; rfl
      refine Sat.pure h (u := .int k (if m > n then m else n)) ?_ (.tv (.int _ _))
      simp [execOp, resolve, invoke, builtin, e3, e4, Builtin.max_, Builtin.max2]
     ·trivial
    ·trivial
  | value f =>
   simp at hok
   have hf := evo_ok hT f hok.1
   have hargs : VRs σ ι (args.toList.map (evo T)) (args.toList.map a.eval) := evos_ok hT _ (by simpa using hok.2)
   have hmap : args.map a.eval = (args.toList.map a.eval).toArray := by apply Array.toList_inj.1; simp
   simp only [evCall]
   unfold evCallV
   split
   ·rename_i k e
    split
    ·rename_i hk
     rw [e] at hf
     have e3 : a.eval f = .func (.func k) #[] #[] := by
      generalize a.eval f = u at hf
      cases hf with | tv hf => cases hf; rfl
     refine ⟨args.toList.map a.eval, ?_, hargs⟩
     simp [execOp, resolve, e3, Deferred.ofValue, invoke, callFunc_run hk, hmap]
    ·trivial
   ·rename_i k cap e
    split
    ·rename_i hk
     rw [e] at hf
     generalize e3 : a.eval f = u at hf
     cases hf with
     | fn _ _ us hl hv =>
     refine ⟨args.toList.map a.eval ++ us, ?_, hargs.append ⟨hl, hv⟩⟩
     simp [execOp, resolve, e3, Deferred.ofValue, invoke, callFunc_run hk, hmap]
    ·trivial
   ·rename_i i e
    rw [e] at hf
    generalize e3 : a.eval f = u at hf
    cases hf with
    | yl _ b n hi =>
    refine ⟨args.toList.map a.eval, b, n, hi, ?_, hargs⟩
    simp [execOp, resolve, e3, Deferred.ofValue, invoke, hmap]
   ·trivial
 | _ => trivial
end
end Go.Proofs.YtphmhelkojdlaaaDoor
namespace Go.Proofs.YtphmhelkojdlaaaDoor
open Go.RowKit
set_option linter.unusedSimpArgs false
set_option linter.unusedVariables false
/-- A call, told: under the ids that begin with q (in the path's sense) it may lay blocks of its own. -/
def CallOK (P : Program) (f : FuncId) (args : List AV) (H : Hp) (q : Id) (post : AV → Hp → Prop) : Prop :=
 ∀ B w0 σ ι w us, WR B w0 σ ι H w → (∀ j, q <:+ j → ι j = none) → VRs σ ι args us →
  CallsIn Fence.wide 0 P f us.toArray w fun e w' => ∃ v u H' σ' ι', e = .returned u ∧ post v H' ∧ VR σ' ι' v u ∧ WR B w0 σ' ι' H' w' ∧
   (∀ x y, σ x y → σ' x y) ∧ (∀ j y, ι j = some y → ι' j = some y) ∧ ∀ j, ¬ q <:+ j → ι' j = ι j
/-- A call that only reads and hands back a value without ids. -/
def PureCall (P : Program) (f : FuncId) (args : List AV) (v : AV) : Prop := ∀ H q, CallOK P f args H q fun v' H' => v' = v ∧ H' = H
def Sub (H H' : Hp) : Prop := ∀ z o, hget H z = some o → hget H' z = some o
/-- A call that only reads, where the heap has the blocks of H. -/
def StabCall (P : Program) (f : FuncId) (args : List AV) (H : Hp) (v : AV) : Prop := ∀ H' q, Sub H H' → CallOK P f args H' q fun v1 H1 => v1 = v ∧ H1 = H'
theorem PureCall.stab {P : Program} {f : FuncId} {args : List AV} {v : AV} (h : PureCall P f args v) (H : Hp) : StabCall P f args H v := fun H' q _ => h H' q
theorem StabCall.mono {P : Program} {f : FuncId} {args : List AV} {H H' : Hp} {v : AV} (h : StabCall P f args H v) (hs : Sub H H') : StabCall P f args H' v := fun H2 q h2 => h H2 q (fun z o hz => h2 z o (hs z o hz))
theorem CallOK.mono {P : Program} {f : FuncId} {args : List AV} {H : Hp} {q : Id} {post post' : AV → Hp → Prop} (h : CallOK P f args H q post) (hp : ∀ v H', post v H' → post' v H') : CallOK P f args H q post' := by
 intro B w0 σ ι w us hw hq hus
 refine ⟨(h B w0 σ ι w us hw hq hus).1, fun cs hr => ?_⟩
 obtain ⟨e, w', fr, ⟨v, u, H', σ', ι', he, hpost, rest⟩, x⟩ := (h B w0 σ ι w us hw hq hus).2 cs hr
 exact ⟨e, w', fr, ⟨v, u, H', σ', ι', he, hp _ _ hpost, rest⟩, x⟩

/-- A call of the function by which a range over a function runs its rounds, told. -/
def YldOK (P : Program) (i : Id) (args : List AV) (H : Hp) (q : Id) (post : AV → Hp → Prop) : Prop :=
 ∀ B w0 σ ι w us l n, WR B w0 σ ι H w → (∀ j, q <:+ j → ι j = none) → VRs σ ι args us → ι i = some (some (l, n)) →
  ∃ f tmps asg body, (Instr.yield l us.toArray).run P w = .ok (.round l f tmps asg body) w ∧
  RoundIn Fence.wide 0 P l f tmps asg body w fun e w' => ∃ v u H' σ' ι', e = .returned u ∧ post v H' ∧ VR σ' ι' v u ∧ WR B w0 σ' ι' H' w' ∧
   (∀ x y, σ x y → σ' x y) ∧ (∀ j y, ι j = some y → ι' j = some y) ∧ ∀ j, ¬ q <:+ j → ι' j = ι j
structure SOp where
 dst : Option Nat
 op : Op
 g : Option (Nat × Bool)
def slimOp (ops : Array Oper) (o : Oper) : Option SOp := match o.guard with
 | none => some ⟨o.dst, o.op, none⟩
 | some (j, b) => match (ops[j]?).bind (·.dst) with
  | some t => some ⟨o.dst, o.op, some (t, b)⟩
  | none => none
def noDefer : Op → Bool
 | .defer _ => false
 | _ => true
def operOk (nt : Nat) (o : Oper) : Bool := opOk o && (match o.dst with | some d => decide (d < nt) | none => true) && noDefer o.op
def slims (ops : Array Oper) : List Oper → Option (List SOp)
 | [] => some []
 | o :: r => match slimOp ops o with
  | some x => match slims ops r with
   | some y => some (x :: y)
   | none => none
  | none => none
def slim (nt : Nat) (ops : Array Oper) : Option (List SOp) := match ops.toList.all (operOk nt) with
 | true => slims ops ops.toList
 | false => none

def tset (d : Option Nat) (v : AV) (T : Tm) : Tm := match d with
 | some d => (d, v) :: T
 | none => T
/-- A slice of one's own, read as a tree from now on. -/
def frzV (H : Hp) : AV → Option (AV × Hp)
 | .sl i sz off len => match hget H i with
  | some (.row cells _) => match tvs cells with
   | some ts => if off = 0 ∧ ts.length = len * sz ∧ 0 < sz then some (.tv (.sli sz (chunk sz len ts)), hset H i (.row cells true)) else none
   | none => none
  | _ => none
 | v => some (v, H)
def frzs : List AV → Hp → Option (List AV × Hp)
 | [], H => some ([], H)
 | v :: r, H => match frzV H v with
  | some (v', H1) => match frzs r H1 with
   | some (r', H2) => some (v' :: r', H2)
   | none => none
  | none => none
/-- What a call asks: a contract, of the arguments as they are or of their slices read as trees; and what goes on behind it. -/
def callK (P : Program) (f : FuncId) (args : List AV) (H : Hp) (q : Id) (K : AV → Hp → Prop) : Prop :=
 ∃ args' H0, (args' = args ∧ H0 = H ∨ frzs args H = some (args', H0)) ∧ ∃ post, CallOK P f args' H0 q post ∧ ∀ v H', post v H' → K v H'
/-- What an operation's result asks, and what goes on behind it. -/
def evr (P : Program) (p : Id) (d : Option Nat) (T : Tm) (H : Hp) (n : Nat) (K : Tm → Hp → Nat → Prop) : Res → Prop
 | .val v e => K (tset d v T) (e.app H (n :: p)) (n + 1)
 | .need c r => c ∧ evr P p d T H n K r
 | .call f args => callK P f args H (n :: p) fun v H' => K (tset d v T) H' (n + 1)
 | .yld i args => ∃ post, YldOK P i args H (n :: p) post ∧ ∀ v H', post v H' → K (tset d v T) H' (n + 1)
 | .fail => False
/-- Operations in the order of the text. -/
def evs (P : Program) (p : Id) : List SOp → Tm → Hp → Nat → (Tm → Hp → Nat → Prop) → Prop
 | [], T, H, n, K => K T H n
 | ⟨d, op, none⟩ :: os, T, H, n, K => evr P p d T H n (fun T' H' n' => evs P p os T' H' n' K) (evOp P T H (n :: p) op)
 | ⟨d, op, some (t, b)⟩ :: os, T, H, n, K => match tget T t with
  | .tv (.bool c) => (c = b → evr P p d T H n (fun T' H' n' => evs P p os T' H' n' K) (evOp P T H (n :: p) op)) ∧ (c = !b → evs P p os (tset d (.tup []) T) H (n + 1) K)
  | .tup [] => evs P p os (tset d (.tup []) T) H (n + 1) K
  | _ => False

/-- A deferred call, told; and the activation's: they are told under a temporary's number that no function has. -/
def DV (σ : Facts) (ι : Where) (v : AV) (d : Deferred) : Prop := match v with
 | .ptr id _ => ∃ b n, ι id = some (some (b, n)) ∧ d = { target := .collected b, args := #[] }
 | .fn f cap => ∃ us, VRs σ ι cap us ∧ d = { target := .fn f us.toArray, args := #[] }
 | _ => False
def DRel (σ : Facts) (ι : Where) (v : AV) (ms : List Deferred) : Prop := match v with
 | .any => ms = []
 | .ds l => ms.length = l.length ∧ ∀ (j : Nat) v d, l[j]? = some v → ms[j]? = some d → DV σ ι v d
 | _ => False
theorem DV.mono {σ σ' : Facts} {ι ι' : Where} (h : ∀ a v, σ a v → σ' a v) (hι : ∀ id x, ι id = some x → ι' id = some x) {v : AV} {d : Deferred} (hv : DV σ ι v d) : DV σ' ι' v d := by
 cases v with
 | ptr id off => obtain ⟨b, n, h1, h2⟩ := hv; exact ⟨b, n, hι _ _ h1, h2⟩
 | fn f cap => obtain ⟨us, h1, h2⟩ := hv; exact ⟨us, h1.mono h hι, h2⟩
 | _ => exact hv.elim
theorem DRel.mono {σ σ' : Facts} {ι ι' : Where} (h : ∀ a v, σ a v → σ' a v) (hι : ∀ id x, ι id = some x → ι' id = some x) {v : AV} {ms : List Deferred} (hv : DRel σ ι v ms) : DRel σ' ι' v ms := by
 cases v with
 | any => exact hv
 | ds l => exact ⟨hv.1, fun j v d h1 h2 => (hv.2 j v d h1 h2).mono h hι⟩
 | _ => exact hv.elim
def Dfs (σ : Facts) (ι : Where) (T : Tm) (ds defers : List Deferred) : Prop := ∃ ms, defers = ms ++ ds ∧ DRel σ ι (tget T 1000000) ms
theorem Dfs.mono {σ σ' : Facts} {ι ι' : Where} (h : ∀ a v, σ a v → σ' a v) (hι : ∀ id x, ι id = some x → ι' id = some x) {T : Tm} {ds l : List Deferred} (hv : Dfs σ ι T ds l) : Dfs σ' ι' T ds l :=
 let ⟨ms, h1, h2⟩ := hv; ⟨ms, h1, h2.mono h hι⟩
theorem Dfs.same {σ : Facts} {ι : Where} {T T' : Tm} {ds l : List Deferred} (hv : Dfs σ ι T ds l) (h : tget T' 1000000 = tget T 1000000) : Dfs σ ι T' ds l := by
 unfold Dfs at *; rw [h]; exact hv
theorem tget_tset_d {T : Tm} {d : Option Nat} {v : AV} {nt : Nat} (hd : ∀ t, d = some t → t < nt) (hn : nt ≤ 1000000) : tget (tset d v T) 1000000 = tget T 1000000 := by
 cases d with
 | none => rfl
 | some t =>
  have := hd t rfl
  simp only [tset, tget]
  rw [if_neg (by omega)]
structure En where
 P : Program
 rd : Option Nat
 nt : Nat
def En.F (E : En) : Fence := { Fence.wide with round := E.rd }
structure St where
 T : Tm
 H : Hp
 p : Id
 n : Nat
def Fr (ι : Where) (p : Id) (n : Nat) : Prop := ∀ j k, n ≤ k → (k :: p) <:+ j → ι j = none
/-- The machine's activation and world are as told: s. σ0, ι0: what was known when the call (or the loop) began; q: the ids that are its own. -/
structure SRw (E : En) (B : Base) (w0 : World) (σ0 : Facts) (ι0 : Where) (q : Id) (ds : List Deferred) (s : St) (a : Act) (w : World) (σ : Facts) (ι : Where) : Prop where
 le : ∀ x y, σ0 x y → σ x y
 lei : ∀ j y, ι0 j = some y → ι j = some y
 out : ∀ j, ¬ q <:+ j → ι j = ι0 j
 wr : WR B w0 σ ι s.H w
 tr : TRel σ ι s.T a.tmps
 nt : a.tmps.size = E.nt
 qp : q <:+ s.p
 fr : Fr ι s.p s.n
 df : Dfs σ ι s.T ds a.defers
 nk : E.nt ≤ 1000000
def SR (E : En) (B : Base) (w0 : World) (σ0 : Facts) (ι0 : Where) (q : Id) (ds : List Deferred) (s : St) (a : Act) (w : World) : Prop := ∃ σ ι, SRw E B w0 σ0 ι0 q ds s a w σ ι
/-- From a told state the code comes to an exit and a told state of Q. -/
def AT (E : En) (c : Code) (Q : Exit → St → Prop) (s : St) : Prop :=
 ∀ B w0 σ0 ι0 q ds a w, SR E B w0 σ0 ι0 q ds s a w → c.wpIn E.F 0 E.P (fun e a' w' => ∃ s', Q e s' ∧ SR E B w0 σ0 ι0 q ds s' a' w') a w

theorem suffix_cons_ne {p j : Id} {k m : Nat} (h1 : (k :: p) <:+ j) (h2 : (m :: p) <:+ j) : k = m := by
 obtain ⟨l1, e1⟩ := h1
 obtain ⟨l2, e2⟩ := h2
 rw [← e2] at e1
 have hlen : l1.length = l2.length := by
  have := congrArg List.length e1; simp at this; omega
 have := List.append_inj e1 hlen
 simpa using this.2
section
variable {E : En} {B : Base} {w0 w : World} {σ0 : Facts} {ι0 : Where} {q : Id} {ds : List Deferred} {s : St} {a : Act}
theorem TRel.put {σ : Facts} {ι : Where} {T : Tm} {d : Option Nat} {v : AV} {u : Value} (hT : TRel σ ι T a.tmps) (hd : ∀ t, d = some t → t < a.tmps.size) (hv : VR σ ι v u) : TRel σ ι (tset d v T) (a.put d u).tmps := by
 cases d with
 | none => exact hT
 | some t =>
  intro k
  have hlt := hd t rfl
  simp only [tset, tget, Act.put]
  by_cases e : t = k
  ·subst e
   rw [if_pos rfl]
   simp [Array.getD, hlt]
   exact hv
  ·rw [if_neg e]
   have := hT k
   simp only [Array.getD_eq_getD_getElem?, Array.getElem?_setIfInBounds_ne e] at this ⊢
   exact this
theorem SRw.put {σ σ' : Facts} {ι ι' : Where} {d : Option Nat} {v : AV} {u : Value} {H' : Hp} {w' : World} (h : SRw E B w0 σ0 ι0 q ds s a w σ ι) (hd : ∀ t, d = some t → t < E.nt) (hv : VR σ' ι' v u) (hw : WR B w0 σ' ι' H' w')
  (h1 : ∀ x y, σ x y → σ' x y) (h2 : ∀ j y, ι j = some y → ι' j = some y) (h3 : ∀ j, ¬ (s.n :: s.p) <:+ j → ι' j = ι j) :
  SRw E B w0 σ0 ι0 q ds ⟨tset d v s.T, H', s.p, s.n + 1⟩ (a.put d u) w' σ' ι' := by
 refine ⟨fun x y hx => h1 _ _ (h.le x y hx), fun j y hj => h2 _ _ (h.lei j y hj), fun j hj => ?_, hw, TRel.put (fun t => (h.tr t).mono h1 h2) (fun t e => by rw [h.nt]; exact hd t e) hv, ?_, h.qp, ?_, ?_, h.nk⟩
 ·rw [h3 j (fun hs => hj ((h.qp.trans (List.suffix_cons _ _)).trans hs))]; exact h.out j hj
 ·cases d <;> simp [Act.put, h.nt]
 ·intro j k hk hj
  have hk' : s.n + 1 ≤ k := hk
  rw [h3 j (fun hs => by have := suffix_cons_ne hj hs; omega)]
  exact h.fr j k (by omega) hj
 ·have := (h.df.mono h1 h2).same (tget_tset_d (v := v) hd h.nk)
  cases d <;> exact this
theorem frzV_ok {σ : Facts} {ι : Where} {H H' : Hp} {v v' : AV} (hw : WR B w0 σ ι H w) (h : frzV H v = some (v', H')) :
  ∃ σ', (∀ x y, σ x y → σ' x y) ∧ WR B w0 σ' ι H' w ∧ ∀ u, VR σ ι v u → VR σ' ι v' u := by
 unfold frzV at h
 split at h
 ·rename_i i sz off len
  split at h
  ·rename_i cells ro hh
   split at h
   ·rename_i ts hts
    split at h
    ·rename_i hc
     obtain ⟨rfl, hl, hsz⟩ := hc
     simp only [Option.some.injEq, Prod.mk.injEq] at h; obtain ⟨rfl, rfl⟩ := h
     have hcs := tvs_some hts
     cases hi : ι i with
     | none => exact absurd hi (hw.dom i _ hh)
     | some x =>
      cases x with
      | none =>
       obtain ⟨ro', he⟩ := hw.ghost i _ hh hi
       cases he
       have hts0 : ts = [] := by cases ts with | nil => rfl | cons a l => simp at hcs
       have hl0 : len = 0 := by
        have h0 : len * sz = 0 := by rw [← hl, hts0]; rfl
        rcases Nat.mul_eq_zero.1 h0 with h | h <;> omega
       subst hts0 hl0
       -- the row is empty: nothing is to be known
       refine ⟨σ, fun _ _ h => h, ?_, fun u hu => ?_⟩
       ·refine ⟨hw.hB, hw.below, fun j o b n hj hij => ?_, fun j o hj hij => ?_, fun j o hj => ?_, fun j j' o o' b n n' h1 h2 h3 h4 => ?_, hw.sure, fun a x hs j o b n hj hij hb => ?_, hw.newf⟩
        ·rw [hget_hset] at hj
         by_cases e : i = j
         ·subst e; rw [hi] at hij; cases hij
         ·rw [if_neg e] at hj; exact hw.obj j o b n hj hij
        ·rw [hget_hset] at hj
         by_cases e : i = j
         ·subst e; rw [if_pos rfl, hh] at hj; simp at hj; exact ⟨true, hj.symm⟩
         ·rw [if_neg e] at hj; exact hw.ghost j o hj hij
        ·rw [hget_hset] at hj
         by_cases e : i = j
         ·subst e; rw [hi]; simp
         ·rw [if_neg e] at hj; exact hw.dom j o hj
        ·have g1 : ∃ y, hget H j = some y := by
          rw [hget_hset] at h1
          by_cases e : i = j
          ·subst e; exact ⟨_, hh⟩
          ·rw [if_neg e] at h1; exact ⟨_, h1⟩
         have g2 : ∃ y, hget H j' = some y := by
          rw [hget_hset] at h2
          by_cases e : i = j'
          ·subst e; exact ⟨_, hh⟩
          ·rw [if_neg e] at h2; exact ⟨_, h2⟩
         obtain ⟨y1, g1⟩ := g1
         obtain ⟨y2, g2⟩ := g2
         exact hw.inj j j' y1 y2 b n n' g1 g2 h3 h4
        ·rw [hget_hset] at hj
         by_cases e : i = j
         ·subst e; rw [hi] at hij; cases hij
         ·rw [if_neg e] at hj; exact hw.stab a x hs j o b n hj hij hb
       ·cases hu with
        | sl _ _ _ _ b n cap hi' => rw [hi] at hi'; cases hi'
        | sl0 _ _ _ A => exact .tv (by have := TR.sli (σ := σ) sz [] A 0 (fun _ _ => undef) (by simp) (by simp) (fun _ => rfl) (fun r hr => by simp at hr) (fun i j r c h => by simp at h) (fun a i j r c _ h => by simp at h); exact this)
      | some bn =>
       obtain ⟨b, n⟩ := bn
       refine ⟨_, fun _ _ h => .inl h, hw.freeze hh hi, fun u hu => ?_⟩
       cases hu with
       | sl0 _ _ _ A =>
        exact .tv (by have := TR.sli (σ := froz σ b cells.length w) sz [] A 0 (fun _ _ => undef) (by simp) (by simp) (fun _ => rfl) (fun r hr => by simp at hr) (fun i j r c h => by simp at h) (fun a i j r c _ h => by simp at h); exact this)
       | sl _ _ _ _ b' n' cap hi' hc hn' hm =>
        rw [hi] at hi'; cases hi'
        simp only [Nat.zero_mul]
        refine .tv (TR.ofCells (us := fun j => (w.cell? ⟨b, j, none⟩).getD undef) hl hc hm (fun j c hj => ?_))
        have hj' : cells[j]? = some (.tv c) := by rw [hcs]; simp [hj]
        obtain ⟨u, h1, h2, _⟩ := hw.cell hh hi hj'
        rw [h1]
        simp only [Option.getD_some]
        cases h2 with
        | tv h2 => exact ⟨h2.mono (fun _ _ h => .inl h), .inr ⟨rfl, (List.getElem?_eq_some_iff.1 hj').1, h1⟩⟩
    ·cases h
   ·cases h
  ·cases h
 ·simp only [Option.some.injEq, Prod.mk.injEq] at h; obtain ⟨rfl, rfl⟩ := h
  exact ⟨σ, fun _ _ h => h, hw, fun u hu => hu⟩
theorem frzs_ok : ∀ (vs : List AV) (σ : Facts) (ι : Where) (H H' : Hp) (vs' : List AV) (us : List Value), WR B w0 σ ι H w → frzs vs H = some (vs', H') → VRs σ ι vs us →
  ∃ σ', (∀ x y, σ x y → σ' x y) ∧ WR B w0 σ' ι H' w ∧ VRs σ' ι vs' us := by
 intro vs
 induction vs with
 | nil =>
  intro σ ι H H' vs' us hw h hv
  simp only [frzs, Option.some.injEq, Prod.mk.injEq] at h; obtain ⟨rfl, rfl⟩ := h
  exact ⟨σ, fun _ _ h => h, hw, hv⟩
 | cons v vs ih =>
  intro σ ι H H' vs' us hw h hv
  obtain ⟨u, us', rfl, hu, hus⟩ := hv.cons_inv
  simp only [frzs] at h
  split at h
  ·rename_i v' H1 h1
   split at h
   ·rename_i r' H2 h2
    simp only [Option.some.injEq, Prod.mk.injEq] at h; obtain ⟨rfl, rfl⟩ := h
    obtain ⟨σ1, l1, hw1, hv1⟩ := frzV_ok hw h1
    obtain ⟨σ2, l2, hw2, hv2⟩ := ih σ1 ι H1 _ _ us' hw1 h2 (hus.mono l1 (fun _ _ h => h))
    exact ⟨σ2, fun x y h => l2 _ _ (l1 _ _ h), hw2, VRs.cons ((hv1 u hu).mono l2 (fun _ _ h => h)) hv2⟩
   ·cases h
  ·cases h
theorem evr_sound {o : Oper} {r : Res} {K : Tm → Hp → Nat → Prop} {next : Act → World → Prop} {Q : Exit → Act → World → Prop} {σ : Facts} {ι : Where} (hs : SRw E B w0 σ0 ι0 q ds s a w σ ι) (hok : operOk E.nt o = true)
  (hsat : Sat E.P (execOp a.eval o) w B w0 σ ι s.H (s.n :: s.p) r) (hK : ∀ T' H' n' a' w', K T' H' n' → SR E B w0 σ0 ι0 q ds ⟨T', H', s.p, n'⟩ a' w' → next a' w')
  (hr : evr E.P s.p o.dst s.T s.H s.n K r) : o.wpIn E.F 0 E.P a w next Q := by
 simp only [operOk, Bool.and_eq_true] at hok
 obtain ⟨⟨_, hd⟩, hnd⟩ := hok
 have hd' : ∀ t, o.dst = some t → t < E.nt := by
  intro t ht; rw [ht] at hd; simpa using hd
 have hsem : o.semAt E.F.round a.eval = execOp a.eval o := Oper.semAt_eq _ _ _ (fun c hc => by rw [hc] at hnd; simp [noDefer] at hnd)
 refine ⟨fun _ _ => trivial, ?_⟩
 rw [hsem]
 induction r with
 | val v e =>
  obtain ⟨u, w', hrun, σ', ι', hv, hw, h1, h2, h3⟩ := hsat
  have hsr := hs.put hd' hv hw h1 h2 (fun j hj => h3 j (fun e => hj (by rw [e]; exact List.suffix_refl _)))
  have := hK _ _ _ _ _ hr ⟨σ', ι', hsr⟩
  rcases hrun with hrun | ⟨hrun, rfl⟩
  ·rw [hrun]; exact this
  ·rw [hrun]; exact this
 | need c r ih => exact ih (hsat hr.1) hr.2
 | call f args =>
  obtain ⟨us, hrun, hus⟩ := hsat
  obtain ⟨args', H0, hargs, post, hc, hk⟩ := hr
  rw [hrun]
  refine ⟨fun h => (by simp [En.F, Fence.wide] at h), ?_⟩
  have hfr : ∃ σ1, (∀ x y, σ x y → σ1 x y) ∧ WR B w0 σ1 ι H0 w ∧ VRs σ1 ι args' us := by
   rcases hargs with ⟨rfl, rfl⟩ | hargs
   ·exact ⟨σ, fun _ _ h => h, hs.wr, hus⟩
   ·exact frzs_ok _ _ _ _ _ _ _ hs.wr hargs hus
  obtain ⟨σ1, l1, hw1, hus1⟩ := hfr
  have := hc B w0 σ1 ι w us hw1 (fun j hj => hs.fr j s.n (Nat.le_refl _) hj) hus1
  refine ⟨trivial, fun cs hroom => ?_⟩
  obtain ⟨e, w', fr, ⟨v, u, H', σ', ι', rfl, hpost, hv, hw, h1, h2, h3⟩, x⟩ := this.2 cs (room_wide _)
  refine ⟨.returned u, w', fr, ?_, x⟩
  exact hK _ _ _ _ _ (hk v H' hpost) ⟨σ', ι', hs.put hd' hv hw (fun x y h => h1 _ _ (l1 _ _ h)) h2 h3⟩
 | yld i args =>
  obtain ⟨us, l, n, hi, hrun, hus⟩ := hsat
  obtain ⟨post, hy, hk⟩ := hr
  obtain ⟨f, tmps, asg, body, hyl, hround⟩ := hy B w0 σ ι w us l n hs.wr (fun j hj => hs.fr j s.n (Nat.le_refl _) hj) hus hi
  rw [hrun, hyl]
  refine ⟨fun h => (by simp [En.F, Fence.wide] at h), trivial, fun c cs hroom => ?_⟩
  obtain ⟨e, w', ⟨v, u, H', σ', ι', rfl, hpost, hv, hw, h1, h2, h3⟩, x⟩ := hround.2 c cs (room_wide _)
  exact ⟨.returned u, w', hK _ _ _ _ _ (hk v H' hpost) ⟨σ', ι', hs.put hd' hv hw h1 h2 h3⟩, x⟩
 | fail => exact hr.elim
theorem yielded_of {σ : Facts} {ι : Where} {T : Tm} {ops : Array Oper} {j t : Nat} {c : Bool} (hT : TRel σ ι T a.tmps) (hj : (ops[j]?).bind (·.dst) = some t) (ht : tget T t = .tv (.bool c)) : yielded ops a.tmps j = some c := by
 have := hT t
 rw [ht] at this
 generalize hu : a.tmps.getD t undef = u at this
 cases this with
 | tv h =>
 cases h
 unfold yielded
 rw [hj]
 simp only [Option.bind_some]
 rw [Array.getD_eq_getD_getElem?] at hu
 cases he : a.tmps[t]? with
 | none => rw [he] at hu; simp [undef] at hu
 | some x => rw [he] at hu; simp at hu; rw [hu]
theorem yielded_none {σ : Facts} {ι : Where} {T : Tm} {ops : Array Oper} {j t : Nat} (hT : TRel σ ι T a.tmps) (hj : (ops[j]?).bind (·.dst) = some t) (ht : tget T t = .tup []) : yielded ops a.tmps j = none := by
 have := hT t
 rw [ht] at this
 generalize hu : a.tmps.getD t undef = u at this
 cases this with
 | tup vs us hl hv =>
 unfold yielded
 rw [hj]
 simp only [Option.bind_some]
 rw [Array.getD_eq_getD_getElem?] at hu
 cases he : a.tmps[t]? with
 | none => rfl
 | some x => rw [he] at hu; simp at hu; rw [hu]
theorem evs_sound {ops : Array Oper} {K : Tm → Hp → Nat → Prop} {Q : Exit → Act → World → Prop} (p : Id) (hK : ∀ T' H' n' a' w', K T' H' n' → SR E B w0 σ0 ι0 q ds ⟨T', H', p, n'⟩ a' w' → Q .normal a' w') :
  ∀ (os : List SOp) (is : List Nat) (T : Tm) (H : Hp) (n : Nat) (a : Act) (w : World), is.length = os.length → (∀ (k i : Nat) (so : SOp), is[k]? = some i → os[k]? = some so → ∃ o, ops[i]? = some o ∧ slimOp ops o = some so ∧ operOk E.nt o = true) →
   evs E.P p os T H n K → SR E B w0 σ0 ι0 q ds ⟨T, H, p, n⟩ a w → wpOpsIn E.F 0 E.P ops Q is a w := by
 intro os
 induction os with
 | nil =>
  intro is T H n a w hl _ hev hs
  have : is = [] := by simpa using hl
  subst this
  exact hK T H n a w hev hs
 | cons so os ih =>
  intro is T H n a w hl hops hev hs
  cases is with
  | nil => simp at hl
  | cons i is =>
   obtain ⟨o, ho, hso, hok⟩ := hops 0 i so rfl rfl
   have hl' : is.length = os.length := by simpa using hl
   have hops' : ∀ (k i : Nat) (so : SOp), is[k]? = some i → os[k]? = some so → ∃ o, ops[i]? = some o ∧ slimOp ops o = some so ∧ operOk E.nt o = true := fun k i so h1 h2 => hops (k + 1) i so (by simpa using h1) (by simpa using h2)
   simp only [wpOpsIn, ho]
   obtain ⟨σ, ι, hs'⟩ := hs
   have hop1 : opOk o = true := by simp only [operOk, Bool.and_eq_true] at hok; exact hok.1.1
   have hsat : Sat E.P (execOp a.eval o) w B w0 σ ι H (n :: p) (evOp E.P T H (n :: p) o.op) := evOp_sound hs'.wr hs'.tr (hs'.fr _ n (Nat.le_refl _) (List.suffix_refl _)) hop1
   have step : evr E.P p o.dst T H n (fun T' H' n' => evs E.P p os T' H' n' K) (evOp E.P T H (n :: p) o.op) → o.wpIn E.F 0 E.P a w (wpOpsIn E.F 0 E.P ops Q is) Q := by
    intro hr
    exact evr_sound hs' hok hsat (fun T' H' n' a' w' hk hsr => ih is T' H' n' a' w' hl' hops' hk hsr) hr
   unfold slimOp at hso
   split at hso
   ·rename_i hg
    simp at hso; subst hso
    have hw : Region.wanted o (yielded ops a.tmps) = true := by simp [Region.wanted, hg]
    rw [if_pos hw]
    exact step hev
   ·rename_i j b hg
    split at hso
    ·rename_i t ht
     simp at hso; subst hso
     simp only [evs] at hev
     have hd' : ∀ t, o.dst = some t → t < E.nt := by
      intro t ht
      simp only [operOk, Bool.and_eq_true] at hok
      have := hok.1.2; rw [ht] at this; simpa using this
     have skip : evs E.P p os (tset o.dst (.tup []) T) H (n + 1) K → Region.wanted o (yielded ops a.tmps) = false → (if Region.wanted o (yielded ops a.tmps) = true then o.wpIn E.F 0 E.P a w (wpOpsIn E.F 0 E.P ops Q is) Q else (∀ f, o.about E.P w a.eval = some f → E.F.fn f) ∧ wpOpsIn E.F 0 E.P ops Q is (a.put o.dst undef) w) := by
      intro hev hw
      rw [hw, if_neg (by simp)]
      refine ⟨fun _ _ => trivial, ih is _ H (n + 1) _ w hl' hops' hev ?_⟩
      refine ⟨σ, ι, hs'.le, hs'.lei, hs'.out, hs'.wr, TRel.put hs'.tr (fun t e => by rw [hs'.nt]; exact hd' t e) (.tup [] [] rfl (fun j c u h _ => by simp at h)), ?_, hs'.qp, fun j k hk hj => hs'.fr j k (Nat.le_of_succ_le hk) hj, ?_, hs'.nk⟩
      ·cases o.dst <;> simp [Act.put, hs'.nt]
      ·have := hs'.df.same (tget_tset_d (v := .tup []) hd' hs'.nk)
       revert this
       cases o.dst <;> exact id
     split at hev
     ·rename_i c hc
      have hy := yielded_of (ops := ops) hs'.tr ht hc
      by_cases hcb : c = b
      ·have hw : Region.wanted o (yielded ops a.tmps) = true := by simp [Region.wanted, hg, hy, hcb]
       rw [if_pos hw]
       exact step (hev.1 hcb)
      ·exact skip (hev.2 (by cases c <;> cases b <;> simp_all)) (by simp [Region.wanted, hg, hy, hcb])
     ·rename_i hc
      have hy := yielded_none (ops := ops) hs'.tr ht hc
      exact skip hev (by simp [Region.wanted, hg, hy])
     ·exact hev.elim
    ·cases hso
theorem slims_get (ops : Array Oper) : ∀ (l : List Oper) (out : List SOp), slims ops l = some out → out.length = l.length ∧ ∀ (k : Nat) (y : SOp), out[k]? = some y → ∃ x, l[k]? = some x ∧ slimOp ops x = some y := by
 intro l
 induction l with
 | nil => intro out h; simp [slims] at h; subst h; exact ⟨rfl, fun k y h => by simp at h⟩
 | cons x l ih =>
  intro out h
  simp only [slims] at h
  cases hx : slimOp ops x with
  | none => rw [hx] at h; simp at h
  | some y =>
   cases hm : slims ops l with
   | none => rw [hx, hm] at h; simp at h
   | some o =>
    rw [hx, hm] at h; simp at h; subst h
    obtain ⟨h1, h2⟩ := ih o hm
    refine ⟨by simp [h1], fun k y' hk => ?_⟩
    cases k with
    | zero => simp at hk; subst hk; exact ⟨x, rfl, hx⟩
    | succ k => simp at hk; obtain ⟨x', h3, h4⟩ := h2 k y' hk; exact ⟨x', by simpa using h3, h4⟩
/-- A region that does not draw its order. -/
theorem at_region {id : Nat} {ops : Array Oper} {os : List SOp} {Q : Exit → St → Prop} {T : Tm} {H : Hp} {p : Id} {n : Nat} (hsl : slim E.nt ops = some os) (h : evs E.P p os T H n (fun T' H' n' => Q .normal ⟨T', H', p, n'⟩)) : AT E (.region id ops false) Q ⟨T, H, p, n⟩ := by
 intro B w0 σ0 ι0 q ds a w hs
 unfold slim at hsl
 split at hsl
 ·rename_i hall
  obtain ⟨h1, h2⟩ := slims_get _ _ _ hsl
  refine wpIn_region (evs_sound (q := q) p (fun T' H' n' a' w' hk hsr => ⟨_, hk, hsr⟩) os (List.range ops.size) T H n a w (by simp [h1]) (fun k i so hi hso => ?_) h hs)
  obtain ⟨o, ho, hsl⟩ := h2 k so hso
  have hk : k < ops.size := by
   have := (List.getElem?_eq_some_iff.1 ho).1; simpa using this
  rw [List.getElem?_range hk] at hi
  cases hi
  refine ⟨o, by simpa using ho, hsl, ?_⟩
  rw [List.all_eq_true] at hall
  exact hall o (List.mem_of_getElem? ho)
 ·cases hsl
end
end Go.Proofs.YtphmhelkojdlaaaDoor
namespace Go.Proofs.YtphmhelkojdlaaaDoor
open Go.RowKit
set_option linter.unusedSimpArgs false
set_option linter.unusedVariables false
def thenQ (E : En) (c : Code) (Q : Exit → St → Prop) : Exit → St → Prop
 | .normal, s => AT E c Q s
 | e, s => Q e s
def blockQ (id : Nat) (Q : Exit → St → Prop) : Exit → St → Prop
 | .exit id', s => if id' = id then Q .normal s else Q (.exit id') s
 | e, s => Q e s
section
variable {E : En} {Q Q' : Exit → St → Prop} {s s' : St}
theorem at_skip (h : Q .normal s) : AT E .skip Q s := fun _ _ _ _ _ _ _ _ hs => wpIn_skip ⟨s, h, hs⟩
theorem at_exit {id : Nat} (h : Q (.exit id) s) : AT E (.exit id) Q s := fun _ _ _ _ _ _ _ _ hs => wpIn_exit ⟨s, h, hs⟩
theorem at_ret (h : Q .ret s) : AT E .ret Q s := fun _ _ _ _ _ _ _ _ hs => wpIn_ret ⟨s, h, hs⟩
theorem at_mono {c : Code} (h : AT E c Q' s) (hq : ∀ e s, Q' e s → Q e s) : AT E c Q s := fun B w0 σ0 ι0 q ds a w hs =>
 wpIn_mono (h B w0 σ0 ι0 q ds a w hs) fun e a' w' ⟨s', h1, h2⟩ => ⟨s', hq e s' h1, h2⟩
theorem at_seq {c d : Code} (h : AT E c (thenQ E d Q) s) : AT E (.seq c d) Q s := by
 intro B w0 σ0 ι0 q ds a w hs
 refine wpIn_seq (wpIn_mono (h B w0 σ0 ι0 q ds a w hs) fun e a' w' ⟨s', h1, h2⟩ => ?_)
 cases e <;> first | exact ⟨s', h1, h2⟩ | exact h1 B w0 σ0 ι0 q ds a' w' h2
theorem at_block {id : Nat} {c : Code} (h : AT E c (blockQ id Q) s) : AT E (.block id c) Q s := by
 intro B w0 σ0 ι0 q ds a w hs
 refine wpIn_block (wpIn_mono (h B w0 σ0 ι0 q ds a w hs) fun e a' w' ⟨s', h1, h2⟩ => ?_)
 cases e with
 | exit id' =>
  simp only [blockQ] at h1
  simp only [Exit.inBlock]
  split
  ·rename_i e; rw [if_pos e] at h1; exact ⟨s', h1, h2⟩
  ·rename_i e; rw [if_neg e] at h1; exact ⟨s', h1, h2⟩
 | _ => exact ⟨s', h1, h2⟩
theorem at_cond {c : Operand} {x y : Code} {b : Bool} (hc : evo s.T c = .tv (.bool b)) (hok : opdOk c = true) (h1 : b = true → AT E x Q s) (h2 : b = false → AT E y Q s) : AT E (.cond c x y) Q s := by
 intro B w0 σ0 ι0 q ds a w hs
 have hs' := hs
 obtain ⟨σ, ι, hsr⟩ := hs'
 have hv := evo_ok hsr.tr c hok
 rw [hc] at hv
 have he : a.eval c = .bool b := by
  generalize a.eval c = u at hv
  cases hv with | tv hv => cases hv; rfl
 refine wpIn_cond he ?_
 cases b
 ·exact h2 rfl B w0 σ0 ι0 q ds a w hs
 ·exact h1 rfl B w0 σ0 ι0 q ds a w hs
/-- A told state that says less, or that says the same of more. -/
def Gh (s s' : St) : Prop := ∀ E B w0 σ0 ι0 q ds a w, SR E B w0 σ0 ι0 q ds s a w → SR E B w0 σ0 ι0 q ds s' a w
theorem at_pre {c : Code} (h : Gh s s') (hc : AT E c Q s') : AT E c Q s := fun B w0 σ0 ι0 q ds a w hs => hc B w0 σ0 ι0 q ds a w (h E B w0 σ0 ι0 q ds a w hs)
theorem at_post {c : Code} (h : AT E c Q' s) (hq : ∀ e s, Q' e s → ∃ s', Gh s s' ∧ Q e s') : AT E c Q s := fun B w0 σ0 ι0 q ds a w hs =>
 wpIn_mono (h B w0 σ0 ι0 q ds a w hs) fun e a' w' ⟨s', h1, h2⟩ => let ⟨s'', g, h3⟩ := hq e s' h1; ⟨s'', h3, g E B w0 σ0 ι0 q ds a' w' h2⟩
/-- Something that a told state lets know. -/
theorem at_fact {c : Code} (φ : Prop) (hφ : ∀ B w0 σ0 ι0 q ds a w, SR E B w0 σ0 ι0 q ds s a w → φ) (h : φ → AT E c Q s) : AT E c Q s :=
 fun B w0 σ0 ι0 q ds a w hs => h (hφ B w0 σ0 ι0 q ds a w hs) B w0 σ0 ι0 q ds a w hs
theorem Gh.refl (s : St) : Gh s s := fun _ _ _ _ _ _ _ _ _ h => h
theorem Gh.trans {s1 s2 s3 : St} (h : Gh s1 s2) (k : Gh s2 s3) : Gh s1 s3 := fun E B w0 σ0 ι0 q ds a w hs => k E B w0 σ0 ι0 q ds a w (h E B w0 σ0 ι0 q ds a w hs)
/-- Some temporaries and blocks forgotten. -/
theorem Gh.less {T T' : Tm} {H H' : Hp} {p : Id} {n n' : Nat} (hT : ∀ t, tget T' t = tget T t ∨ tget T' t = .any) (hd : tget T' 1000000 = tget T 1000000) (hH : ∀ id o, hget H' id = some o → hget H id = some o) (hn : n ≤ n') : Gh ⟨T, H, p, n⟩ ⟨T', H', p, n'⟩ := by
 rintro E B w0 σ0 ι0 q ds a w ⟨σ, ι, hs⟩
 refine ⟨σ, ι, hs.le, hs.lei, hs.out, hs.wr.weaken hH, fun t => ?_, hs.nt, hs.qp, fun j k hk hj => hs.fr j k (Nat.le_trans hn hk) hj, hs.df.same hd, hs.nk⟩
 rcases hT t with h | h
 ·rw [h]; exact hs.tr t
 ·rw [h]; exact .any _
/-- The slice of one's own in a temporary, read as a tree from now on. -/
theorem Gh.freeze {T : Tm} {H H' : Hp} {p : Id} {n : Nat} (t : Nat) {v' : AV} (ht : t ≠ 1000000) (h : frzV H (tget T t) = some (v', H')) : Gh ⟨T, H, p, n⟩ ⟨(t, v') :: T, H', p, n⟩ := by
 rintro E B w0 σ0 ι0 q ds a w ⟨σ, ι, hs⟩
 obtain ⟨σ', l, hw, hv⟩ := frzV_ok hs.wr h
 refine ⟨σ', ι, fun x y hx => l _ _ (hs.le x y hx), hs.lei, hs.out, hw, fun k => ?_, hs.nt, hs.qp, hs.fr, (hs.df.mono l (fun _ _ h => h)).same (by simp [tget, ht]), hs.nk⟩
 simp only [tget]
 split
 ·rename_i e; subst e; exact hv _ (hs.tr t)
 ·exact (hs.tr k).mono l (fun _ _ h => h)
theorem tr_len {σ : Facts} {ι : Where} {sz : Nat} {rows : List (List TV)} {u : Value} (h : VR σ ι (.tv (.sli sz rows)) u) : rows.length ≤ 9223372036854775807 := by
 cases h with | tv h => cases h; assumption
theorem tr_str {σ : Facts} {ι : Where} {st : ByteArray} {u : Value} (h : VR σ ι (.tv (.str st)) u) : st.size ≤ 9223372036854775807 := by
 cases h with | tv h => cases h; assumption
theorem at_len {c : Code} (t : Nat) {sz : Nat} {rows : List (List TV)} (ht : tget s.T t = .tv (.sli sz rows)) (h : rows.length ≤ 9223372036854775807 → AT E c Q s) : AT E c Q s :=
 at_fact _ (fun _ _ _ _ _ _ _ _ ⟨_, _, hs⟩ => by have := hs.tr t; rw [ht] at this; exact tr_len this) h
theorem at_strlen {c : Code} (t : Nat) {st : ByteArray} (ht : tget s.T t = .tv (.str st)) (h : st.size ≤ 9223372036854775807 → AT E c Q s) : AT E c Q s :=
 at_fact _ (fun _ _ _ _ _ _ _ _ ⟨_, _, hs⟩ => by have := hs.tr t; rw [ht] at this; exact tr_str this) h
/-! ### Functions -/
theorem WR.putObj {B : Base} {w0 w : World} {σ : Facts} {ι : Where} {H : Hp} (h : WR B w0 σ ι H w) {id : Id} {o : AO} {b n : Nat} (hid : hget H id = some o) (hne : ∀ cells, o ≠ .row cells true) (hi : ι id = some (some (b, n))) (o' : AO) {x : Obj} (ho : OR σ ι o' n x) :
  WR B w0 σ ι (hset H id o') (w.putObj b x) := by
 have hlt := h.lt hid hi
 refine h.write hid hi o' (World.putObj_heap_same hlt) ho (fun k hk => World.putObj_heap_other hk) World.putObj_size rfl rfl rfl (fun a v hs hb => ?_)
 obtain ⟨cells, he, _⟩ := h.stab a v hs id o b n hid hi hb
 exact absurd he (hne cells)
/-- What an activation that leaves finds of its deferred calls: here those of ranges over functions, which have none. -/
def leaveK : List AV → Hp → (Hp → Prop) → Prop
 | [], H, K => K H
 | .ptr id _ :: r, H, K => hget H id = some .dfr ∧ leaveK r (hset H id .gone) K
 | _ :: _, _, _ => False
def leaveD (v : AV) (H : Hp) (K : Hp → Prop) : Prop := match v with
 | .any => K H
 | .ds l => leaveK l H K
 | _ => False
theorem leaveK_ok {P : Program} {fn : Func} {tmps : Array Value} {R : Ending → World → Prop} {B : Base} {w0 : World} {σ : Facts} {ι : Where} {K : Hp → Prop}
  (hend : ∀ H w, WR B w0 σ ι H w → K H → ∃ v, (results fn tmps).run P w = .ok v w ∧ R (.returned v) w) : ∀ (l : List AV) (ms : List Deferred) (H : Hp) (w : World), WR B w0 σ ι H w →
   ms.length = l.length → (∀ (j : Nat) v d, l[j]? = some v → ms[j]? = some d → DV σ ι v d) → leaveK l H K → LeavesInM Fence.wide 0 P fn tmps R ms .returning w := by
 intro l
 induction l with
 | nil =>
  intro ms H w hw hl hd h
  have : ms = [] := by simpa using hl
  subst this
  exact hend H w hw h
 | cons v l ih =>
  intro ms H w hw hl hd h
  cases ms with
  | nil => simp at hl
  | cons d ms =>
   cases v with
   | ptr id off =>
    obtain ⟨b, n, hi, he⟩ := hd 0 _ d rfl rfl
    subst he
    obtain ⟨hid, hrest⟩ := h
    obtain ⟨_, obj, hobj, hor⟩ := hw.obj id .dfr b n hid hi
    have hor' : obj = .deferred (some []) := hor
    subst hor'
    refine ⟨by simp, .inl ⟨b, _, rfl, run_takeDeferred hobj, ih ms _ _ (hw.putObj hid (fun _ h => by cases h) hi .gone trivial) (by simpa using hl) (fun j v d h1 h2 => hd (j + 1) v d (by simpa using h1) (by simpa using h2)) hrest⟩⟩
   | _ => exact h.elim
def argT : List AV → Nat → Tm
 | [], _ => []
 | v :: r, k => (k, v) :: argT r (k + 1)
def resK (P : Program) (T : Tm) (H : Hp) : List ResultVar → List AV → (List AV → Prop) → Prop
 | [], acc, K => K acc.reverse
 | .tmp t :: r, acc, K => resK P T H r (tget T t :: acc) K
 | .cell a t :: r, acc, K => match evLoad P H t (tget T a) with
  | .val v _ => resK P T H r (v :: acc) K
  | _ => False
def retV : List AV → AV
 | [v] => v
 | vs => .tup vs
theorem argT_get : ∀ (vs : List AV) (k t : Nat), tget (argT vs k) t = if k ≤ t then (vs[t - k]?).getD .any else .any := by
 intro vs
 induction vs with
 | nil => intro k t; simp [argT, tget]
 | cons v vs ih =>
  intro k t
  simp only [argT, tget, ih]
  by_cases e : k = t
  ·subst e; simp
  ·rw [if_neg e]
   by_cases h : k + 1 ≤ t
   ·rw [if_pos h, if_pos (by omega)]
    have : t - k = (t - (k + 1)) + 1 := by omega
    rw [this]; simp
   ·rw [if_neg h, if_neg (by omega)]
theorem args_rel {σ : Facts} {ι : Where} {vs : List AV} {us : List Value} (h : VRs σ ι vs us) (m : Nat) : TRel σ ι (argT vs 0) (us.toArray ++ Array.replicate m undef) := by
 intro t
 rw [argT_get]
 simp only [Nat.zero_le, if_true, Nat.sub_zero]
 cases hv : vs[t]? with
 | none => exact .any _
 | some v =>
  obtain ⟨u, h1, h2⟩ := h.get hv
  have hlt := (List.getElem?_eq_some_iff.1 h1).1
  simp only [Option.getD_some]
  have : (us.toArray ++ Array.replicate m undef).getD t undef = u := by
   rw [Array.getD_eq_getD_getElem?, Array.getElem?_append_left (by simpa using hlt)]
   simp [h1]
  rw [this]; exact h2
theorem resK_ok {B : Base} {w0 w : World} {σ : Facts} {ι : Where} {P : Program} {T : Tm} {H : Hp} {tmps : Array Value} (hw : WR B w0 σ ι H w) (hT : TRel σ ι T tmps) : ∀ (rs : List ResultVar) (acc : List AV) (uacc : List Value) (K : List AV → Prop),
  VRs σ ι acc.reverse uacc → resK P T H rs acc K → ∃ vs us, K vs ∧ VRs σ ι vs (uacc ++ us) ∧
   (rs.mapM (fun r => match r with | .tmp t => pure (tmps.getD t undef) | .cell a t => do loadVar t (← asAddr (tmps.getD a undef)) : ResultVar → Sem Value)).run P w = .ok us w := by
 intro rs
 induction rs with
 | nil => intro acc uacc K ha h; exact ⟨acc.reverse, [], h, by simpa using ha, by simp⟩
 | cons r rs ih =>
  intro acc uacc K ha h
  cases r with
  | tmp t =>
   simp only [resK] at h
   obtain ⟨vs, us, h1, h2, h3⟩ := ih _ (uacc ++ [tmps.getD t undef]) K (by
    rw [List.reverse_cons]; exact ha.append (VRs.cons (hT t) (VRs.nil _ _))) h
   refine ⟨vs, tmps.getD t undef :: us, h1, by simpa using h2, ?_⟩
   simp only [List.mapM_cons, Sem.run_bind, Sem.run_pure, Result.andThen_ok, h3]
  | cell a t =>
   simp only [resK] at h
   split at h
   ·rename_i v e hl
    have hsat := load_ok (P := P) (t := t) hw (hT a)
    rw [hl] at hsat
    have he : e = .no := by cases e <;> first | rfl | exact hsat.elim
    subst he
    obtain ⟨u, hload, hv'⟩ := hsat
    have had : ∃ ad, tmps.getD a undef = .pointer (some ad) := by
     cases hu : tmps.getD a undef with
     | pointer ad => cases ad with
      | some ad => exact ⟨ad, rfl⟩
      | none => rw [hu] at hload; simp [Instr.loadAt, Instr.sureAddr] at hload
     | _ => rw [hu] at hload; simp [Instr.loadAt, Instr.sureAddr] at hload
    obtain ⟨ad, had⟩ := had
    obtain ⟨vs, us, h1, h2, h3⟩ := ih _ (uacc ++ [u]) K (by
     rw [List.reverse_cons]; exact ha.append (VRs.cons hv' (VRs.nil _ _))) h
    refine ⟨vs, u :: us, h1, by simpa using h2, ?_⟩
    have : (do loadVar t (← asAddr (tmps.getD a undef)) : Sem Value).run P w = .ok u w := by
     rw [had] at hload ⊢
     simpa [Instr.loadAt, Instr.sureAddr, asAddr] using hload
    simp only [List.mapM_cons, Sem.run_bind, this, Result.andThen_ok, h3, Sem.run_pure]
   ·exact h.elim
/-- A function's contract out of its body's triple. -/
theorem call_of_at {P : Program} {f : FuncId} {fn : Func} {c : Code} {args : List AV} {H : Hp} {q : Id} {post : AV → Hp → Prop} (hf : P.funcs[f]? = some fn) (hb : fn.body = some c) (hn : args.length ≤ fn.ntmps ∧ fn.ntmps ≤ 1000000)
  (h : AT ⟨P, none, fn.ntmps⟩ c (fun e s => (e = .normal ∨ e = .ret) ∧ leaveD (tget s.T 1000000) s.H fun H' => resK P s.T H' fn.results.toList [] (fun vs => post (retV vs) H')) ⟨argT args 0, H, q, 0⟩) : CallOK P f args H q post := by
 intro B w0 σ ι w us hw hq hus
 refine callsIn_of_wp_marks hf hb trivial ?_ rfl
 have hsz : us.toArray.size = args.length := by simp [hus.1]
 have hany : tget (argT args 0) 1000000 = .any := by
  rw [argT_get]
  simp only [Nat.zero_le, if_true]
  rw [List.getElem?_eq_none (by omega)]; rfl
 have hstart : SR ⟨P, none, fn.ntmps⟩ B w0 σ ι q [] ⟨argT args 0, H, q, 0⟩ { tmps := us.toArray ++ Array.replicate (fn.ntmps - us.toArray.size) undef, defers := [] } w :=
  ⟨σ, ι, fun _ _ h => h, fun _ _ h => h, fun _ _ => rfl, hw, args_rel hus _, by simp [hus.1]; omega, List.suffix_refl _, fun j k _ hj => hq j ((List.suffix_cons _ _).trans hj), ⟨[], rfl, by rw [hany]; rfl⟩, hn.2⟩
 refine wpIn_mono (h B w0 σ ι q [] _ w hstart) fun e a' w' ⟨s', hq', σ', ι', hs'⟩ => ?_
 obtain ⟨he, hr⟩ := hq'
 obtain ⟨ms, hms, hdr⟩ := hs'.df
 simp only [List.append_nil] at hms
 have hend : ∀ H1 w1, WR B w0 σ' ι' H1 w1 → resK P s'.T H1 fn.results.toList [] (fun vs => post (retV vs) H1) →
   ∃ v, (results fn a'.tmps).run P w1 = .ok v w1 ∧ ∃ v1 u H' σ' ι', Ending.returned v = .returned u ∧ post v1 H' ∧ VR σ' ι' v1 u ∧ WR B w0 σ' ι' H' w1 ∧ (∀ x y, σ x y → σ' x y) ∧ (∀ j y, ι j = some y → ι' j = some y) ∧ ∀ j, ¬ q <:+ j → ι' j = ι j := by
  intro H1 w1 hw1 hr
  obtain ⟨vs, uvs, hp, hv, hm⟩ := resK_ok (P := P) hw1 hs'.tr _ [] [] _ (VRs.nil _ _) hr
  simp only [List.nil_append] at hv
  have hres : (results fn a'.tmps).run P w1 = .ok (if h : uvs.length = 1 then uvs[0] else .tuple uvs.toArray) w1 := by
   have e1 : (fn.results.mapM (fun r => match r with | .tmp t => pure (a'.tmps.getD t undef) | .cell a t => do loadVar t (← asAddr (a'.tmps.getD a undef)) : ResultVar → Sem Value)).run P w1 = .ok uvs.toArray w1 := by
    rw [Array.mapM_eq_mapM_toList]
    simp only [Sem.run_map, hm, Result.andThen_ok]
   have e2 : (results fn a'.tmps).run P w1 = ((fn.results.mapM (fun r => match r with | .tmp t => pure (a'.tmps.getD t undef) | .cell a t => do loadVar t (← asAddr (a'.tmps.getD a undef)) : ResultVar → Sem Value)).run P w1).andThen fun vs w' => .ok (if h : vs.size = 1 then vs[0] else .tuple vs) w' := Sem.run_bind P w1 _ _
   rw [e2, e1]
   simp
  have hvr : VR σ' ι' (retV vs) (if h : uvs.length = 1 then uvs[0] else .tuple uvs.toArray) := by
   unfold retV
   split
   ·rename_i v
    have h1 : uvs.length = 1 := hv.1
    rw [dif_pos h1]
    exact hv.2 0 v _ rfl (by simp [h1])
   ·rename_i hne
    have h1 : ¬ uvs.length = 1 := by
     intro h1
     have h2 : vs.length = 1 := by rw [← hv.1]; exact h1
     match vs, h2 with
     | [v], _ => exact hne v rfl
    rw [dif_neg h1]
    exact .tup _ _ hv.1 hv.2
  exact ⟨_, hres, _, _, _, σ', ι', rfl, hp, hvr, hw1, hs'.le, hs'.lei, hs'.out⟩
 have fin : LeavesInM Fence.wide 0 P fn a'.tmps (fun e w' => ∃ v u H' σ' ι', e = .returned u ∧ post v H' ∧ VR σ' ι' v u ∧ WR B w0 σ' ι' H' w' ∧
   (∀ x y, σ x y → σ' x y) ∧ (∀ j y, ι j = some y → ι' j = some y) ∧ ∀ j, ¬ q <:+ j → ι' j = ι j) a'.defers .returning w' := by
  rw [hms]
  generalize tget s'.T 1000000 = dv at hdr hr
  cases dv with
  | any =>
   have : ms = [] := hdr
   subst this
   exact hend _ _ hs'.wr hr
  | ds l => exact leaveK_ok hend l ms _ _ hs'.wr hdr.1 hdr.2 hr
  | _ => exact hdr.elim
 rcases he with rfl | rfl
 ·exact fin
 ·exact fin
/-! ### The rules as they are used -/
def tkeep (l : List Nat) (T : Tm) : Tm := (1000000, tget T 1000000) :: l.map fun t => (t, tget T t)
theorem tget_tkeep (l : List Nat) (T : Tm) (t : Nat) : tget (tkeep l T) t = tget T t ∨ tget (tkeep l T) t = .any := by
 simp only [tkeep, tget]
 split
 ·rename_i e; subst e; exact .inl rfl
 ·induction l with
  | nil => exact .inr rfl
  | cons k l ih =>
   simp only [List.map_cons, tget]
   split
   ·rename_i e; subst e; exact .inl rfl
   ·exact ih
theorem Gh.keep (l : List Nat) (T : Tm) (H : Hp) (p : Id) (n : Nat) : Gh ⟨T, H, p, n⟩ ⟨tkeep l T, H, p, n⟩ := Gh.less (tget_tkeep l T) rfl (fun _ _ h => h) (Nat.le_refl _)
end
end Go.Proofs.YtphmhelkojdlaaaDoor
