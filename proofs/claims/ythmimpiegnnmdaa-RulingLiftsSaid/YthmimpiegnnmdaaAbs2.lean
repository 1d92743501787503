/- Blocks of one's own, and the relation of a list of them to the machine's memory. -/
import Derived.Test.YthmimpiegnnmdaaAbs1
namespace Go.Proofs.Ythmimpiegnnmdaa
open Go.RowKit
set_option linter.unusedSimpArgs false
set_option linter.unusedVariables false

abbrev Tm := List (Nat × AV)
def tget : Tm → Nat → AV
  | [], _ => .any
  | (t, v) :: r, n => if t = n then v else tget r n
/-- The record of a range over a function, and the block for what its rounds defer. -/
inductive AO where
  | row (cells : List AV) (ro : Bool)
  | smap (es : List (ByteArray × AV))
  | loop (T : Tm) (nt : Nat) (ps : List Nat) (assign body : Code) (st : LoopState) (jump : Option Code)
  | dfr
  | gone
  deriving Inhabited

abbrev Hp := List (Id × AO)
def hget : Hp → Id → Option AO
  | [], _ => none
  | (i, o) :: r, j => if i = j then some o else hget r j
def hset : Hp → Id → AO → Hp
  | [], _, _ => []
  | (i, o) :: r, j, x => if i = j then (i, x) :: r else (i, o) :: hset r j x
def hdel : Hp → Id → Hp
  | [], _ => []
  | (i, o) :: r, j => if i = j then hdel r j else (i, o) :: hdel r j
theorem hget_hset (H : Hp) (i j : Id) (o : AO) : hget (hset H i o) j = if i = j then (hget H i).map (fun _ => o) else hget H j := by
  induction H with
  | nil => simp [hset, hget]
  | cons p r ih =>
    obtain ⟨k, x⟩ := p
    simp only [hset]
    by_cases e : k = i
    · subst e
      simp only [if_true, hget]
      by_cases e2 : k = j <;> simp [e2]
    · simp only [e, if_false, hget, ih]
      by_cases e2 : k = j
      · subst e2
        have : ¬ i = k := fun h => e h.symm
        simp [this]
      · simp [e2]
theorem hget_hdel (H : Hp) (i j : Id) : hget (hdel H i) j = if i = j then none else hget H j := by
  induction H with
  | nil => simp [hdel, hget]
  | cons p r ih =>
    obtain ⟨k, x⟩ := p
    simp only [hdel]
    by_cases e : k = i
    · subst e
      simp only [if_true, hget, ih]
      by_cases e2 : k = j <;> simp [e2]
    · simp only [e, if_false, hget, ih]
      by_cases e2 : k = j
      · subst e2
        have : ¬ i = k := fun h => e h.symm
        simp [this]
      · simp [e2]

def OR (σ : Facts) (ι : Where) (o : AO) (n : Nat) (obj : Obj) : Prop :=
  match o with
  | .row cells _ => ∃ arr e, obj = .cells arr e (0, 0) ∧ arr.size = n ∧ cells.length ≤ n ∧ ∀ (j : Nat) (c : AV), cells[j]? = some c → ∃ u, arr[j]? = some u ∧ VR σ ι c u
  | .smap es => ∃ arr clock, obj = .map arr clock ∧ arr.size = es.length ∧ ∀ (j : Nat) (k : ByteArray) (v : AV), es[j]? = some (k, v) → ∃ e, arr[j]? = some e ∧ e.key = .string k ∧ VR σ ι v e.val
  | .loop T nt ps assign body st jump => ∃ r : Loop, obj = .loop r ∧ (∀ t, VR σ ι (tget T t) (r.tmps.getD t undef)) ∧ r.tmps.size = nt ∧ r.params = ps.toArray ∧ r.assign = assign ∧ r.body = body ∧ r.state = st ∧ r.pending = jump
  | .dfr => obj = .deferred (some [])
  | .gone => True
theorem OR.mono {σ σ' : Facts} {ι ι' : Where} (h : ∀ a v, σ a v → σ' a v) (hι : ∀ id x, ι id = some x → ι' id = some x) {o : AO} {n : Nat} {obj : Obj} (ho : OR σ ι o n obj) : OR σ' ι' o n obj := by
  cases o with
  | row cells ro =>
    obtain ⟨arr, e, h1, h2, h3, h4⟩ := ho
    exact ⟨arr, e, h1, h2, h3, fun j c hc => let ⟨u, hu, hv⟩ := h4 j c hc; ⟨u, hu, hv.mono h hι⟩⟩
  | smap es =>
    obtain ⟨arr, cl, h1, h2, h3⟩ := ho
    exact ⟨arr, cl, h1, h2, fun j k v hc => let ⟨e, he, hk, hv⟩ := h3 j k v hc; ⟨e, he, hk, hv.mono h hι⟩⟩
  | loop T nt ps asg body st jump =>
    obtain ⟨r, h1, h2, h3⟩ := ho
    exact ⟨r, h1, fun t => (h2 t).mono h hι, h3⟩
  | dfr => exact ho
  | gone => exact ho

/-- Where a call began: the memory's size there, and what was known. -/
structure Base where
  B : Nat
  S : Facts
/-- The world that a walk has come to: below B it is as w0 was; the blocks of H lie where ι says; what σ knows holds, and no block of H that may be written bears it. -/
structure WR (B : Base) (w0 : World) (σ : Facts) (ι : Where) (H : Hp) (w : World) : Prop where
  hB : B.B ≤ w0.heap.size
  below : Below B.B w0 w
  obj : ∀ id o b n, hget H id = some o → ι id = some (some (b, n)) → B.B ≤ b ∧ ∃ obj, w.heap[b]? = some obj ∧ OR σ ι o n obj
  ghost : ∀ id o, hget H id = some o → ι id = some none → ∃ ro, o = .row [] ro
  dom : ∀ id o, hget H id = some o → ι id ≠ none
  inj : ∀ id id' o o' b n n', hget H id = some o → hget H id' = some o' → ι id = some (some (b, n)) → ι id' = some (some (b, n')) → id = id'
  sure : ∀ a v, σ a v → w.cell? a = some v
  stab : ∀ a v, σ a v → ∀ id o b n, hget H id = some o → ι id = some (some (b, n)) → a.block = b → ∃ cells, o = .row cells true ∧ a.off < cells.length
  newf : ∀ a v, σ a v → B.S a v ∨ B.B ≤ a.block

variable {B : Base} {w0 w w' : World} {σ σ' : Facts} {ι ι' : Where} {H H' : Hp}
theorem WR.size (h : WR B w0 σ ι H w) : B.B ≤ w.heap.size := Nat.le_trans h.hB h.below.size
theorem WR.weaken (h : WR B w0 σ ι H w) (hH : ∀ id o, hget H' id = some o → hget H id = some o) : WR B w0 σ ι H' w :=
  ⟨h.hB, h.below, fun id o b n ho => h.obj id o b n (hH _ _ ho), fun id o ho => h.ghost id o (hH _ _ ho), fun id o ho => h.dom id o (hH _ _ ho), fun id id' o o' b n n' h1 h2 => h.inj id id' o o' b n n' (hH _ _ h1) (hH _ _ h2), h.sure,
   fun a v hs id o b n ho => h.stab a v hs id o b n (hH _ _ ho), h.newf⟩
theorem WR.same (h : WR B w0 σ ι H w) (h1 : w'.heap = w.heap) (h2 : w'.os = w.os) (h3 : w'.tape = w.tape) (h4 : w'.output = w.output) : WR B w0 σ ι H w' := by
  refine ⟨h.hB, h.below.trans ⟨h2, h3, h4, by rw [h1]; exact Nat.le_refl _, fun k _ => by rw [h1]⟩, ?_, h.ghost, h.dom, h.inj, ?_, h.stab, h.newf⟩
  · intro id o b n ho hi
    obtain ⟨hb, obj, hw, hr⟩ := h.obj id o b n ho hi
    exact ⟨hb, obj, by rw [h1]; exact hw, hr⟩
  · intro a v hs
    have := h.sure a v hs
    simpa [World.cell?, h1] using this
theorem WR.drew (h : WR B w0 σ ι H w) : WR B w0 σ ι H w.drew := h.same rfl rfl rfl rfl
theorem WR.drawn (h : WR B w0 σ ι H w) (n : Nat) : WR B w0 σ ι H { w with drawn := n } := h.same rfl rfl rfl rfl
theorem WR.lt (h : WR B w0 σ ι H w) {id : Id} {o : AO} {b n : Nat} (ho : hget H id = some o) (hi : ι id = some (some (b, n))) : b < w.heap.size := by
  obtain ⟨_, obj, hw, _⟩ := h.obj id o b n ho hi
  exact (Array.getElem?_eq_some_iff.1 hw).1
theorem WR.slt (h : WR B w0 σ ι H w) {a : Addr} {v : Value} (hs : σ a v) : a.block < w.heap.size := World.block_lt_of_cell? w a (h.sure a v hs)
/-- A new block that is not told. -/
theorem WR.junk (h : WR B w0 σ ι H w) (x : Obj) : WR B w0 σ ι H (w.alloc x) := by
  refine ⟨h.hB, h.below.alloc h.size x, ?_, h.ghost, h.dom, h.inj, ?_, h.stab, h.newf⟩
  · intro id o b n ho hi
    obtain ⟨hb, obj, hw, hr⟩ := h.obj id o b n ho hi
    exact ⟨hb, obj, (Below.heap_alloc _ _ _ (Array.getElem?_eq_some_iff.1 hw).1).trans hw, hr⟩
  · intro a v hs
    rw [World.cell?_alloc_lt _ _ _ (h.slt hs)]; exact h.sure a v hs
def wput (ι : Where) (id : Id) (x : Option (Nat × Nat)) : Where := fun j => if j = id then some x else ι j
theorem wput_le {ι : Where} {id : Id} {x : Option (Nat × Nat)} (h : ι id = none) : ∀ j y, ι j = some y → wput ι id x j = some y := by
  intro j y hj
  unfold wput
  split
  · rename_i e; subst e; rw [h] at hj; cases hj
  · exact hj
/-- A new block that is told. -/
theorem WR.new (h : WR B w0 σ ι H w) (id : Id) (hid : ι id = none) (x : Obj) (n : Nat) (o : AO) (ho : OR σ (wput ι id (some (w.heap.size, n))) o n x) :
    WR B w0 σ (wput ι id (some (w.heap.size, n))) ((id, o) :: H) (w.alloc x) := by
  have hle := wput_le (x := some (w.heap.size, n)) hid
  have old : ∀ j o', hget ((id, o) :: H) j = some o' → j = id ∧ o' = o ∨ j ≠ id ∧ hget H j = some o' := by
    intro j o' hj
    simp only [hget] at hj
    by_cases e : id = j
    · rw [if_pos e] at hj; cases hj; exact .inl ⟨e.symm, rfl⟩
    · rw [if_neg e] at hj; exact .inr ⟨fun e2 => e e2.symm, hj⟩
  have at_ : ∀ j, j ≠ id → wput ι id (some (w.heap.size, n)) j = ι j := fun j hj => by unfold wput; rw [if_neg hj]
  have atid : wput ι id (some (w.heap.size, n)) id = some (some (w.heap.size, n)) := by unfold wput; rw [if_pos rfl]
  refine ⟨h.hB, h.below.alloc h.size x, ?_, ?_, ?_, ?_, ?_, ?_, h.newf⟩
  · intro j o' b m hj hi
    rcases old j o' hj with ⟨rfl, rfl⟩ | ⟨hne, hj⟩
    · rw [atid] at hi; cases hi
      exact ⟨h.size, x, (by show (w.heap.push x)[w.heap.size]? = some x; simp), ho⟩
    · rw [at_ _ hne] at hi
      obtain ⟨hb, obj, hw, hr⟩ := h.obj j o' b m hj hi
      exact ⟨hb, obj, (Below.heap_alloc _ _ _ (Array.getElem?_eq_some_iff.1 hw).1).trans hw, hr.mono (fun _ _ h => h) hle⟩
  · intro j o' hj hi
    rcases old j o' hj with ⟨rfl, rfl⟩ | ⟨hne, hj⟩
    · rw [atid] at hi; cases hi
    · rw [at_ _ hne] at hi; exact h.ghost j o' hj hi
  · intro j o' hj
    rcases old j o' hj with ⟨rfl, rfl⟩ | ⟨hne, hj⟩
    · rw [atid]; simp
    · rw [at_ _ hne]; exact h.dom j o' hj
  · intro j j' o1 o2 b n1 n2 h1 h2 h3 h4
    rcases old j o1 h1 with ⟨rfl, rfl⟩ | ⟨hne, h1'⟩ <;> rcases old j' o2 h2 with ⟨rfl, rfl⟩ | ⟨hne', h2'⟩
    · rfl
    · rw [atid] at h3; cases h3
      rw [at_ _ hne'] at h4
      have := h.lt h2' h4; omega
    · rw [atid] at h4; cases h4
      rw [at_ _ hne] at h3
      have := h.lt h1' h3; omega
    · rw [at_ _ hne] at h3; rw [at_ _ hne'] at h4
      exact h.inj j j' o1 o2 b n1 n2 h1' h2' h3 h4
  · intro a v hs
    rw [World.cell?_alloc_lt _ _ _ (h.slt hs)]; exact h.sure a v hs
  · intro a v hs j o' b m hj hi hb
    rcases old j o' hj with ⟨rfl, rfl⟩ | ⟨hne, hj⟩
    · rw [atid] at hi; cases hi
      have := h.slt hs; omega
    · rw [at_ _ hne] at hi
      exact h.stab a v hs j o' b m hj hi hb
/-- A block of one's own is written. -/
theorem WR.write (h : WR B w0 σ ι H w) {id : Id} {o : AO} {b n : Nat} (hid : hget H id = some o) (hi : ι id = some (some (b, n))) (o' : AO) {x : Obj}
    (hw : w'.heap[b]? = some x) (ho : OR σ ι o' n x) (hk : ∀ k, k ≠ b → w'.heap[k]? = w.heap[k]?) (hz : w'.heap.size = w.heap.size)
    (h2 : w'.os = w.os) (h3 : w'.tape = w.tape) (h4 : w'.output = w.output)
    (hs : ∀ a v, σ a v → a.block = b → w'.cell? a = some v ∧ ∃ cells, o' = .row cells true ∧ a.off < cells.length) : WR B w0 σ ι (hset H id o') w' := by
  have hb : B.B ≤ b := (h.obj id o b n hid hi).1
  have old : ∀ j y, hget (hset H id o') j = some y → j = id ∧ y = o' ∨ j ≠ id ∧ hget H j = some y := by
    intro j y hj
    rw [hget_hset] at hj
    by_cases e : id = j
    · rw [if_pos e, hid] at hj; simp at hj; exact .inl ⟨e.symm, hj.symm⟩
    · rw [if_neg e] at hj; exact .inr ⟨fun e2 => e e2.symm, hj⟩
  have was : ∀ j y, hget (hset H id o') j = some y → ∃ y', hget H j = some y' := by
    intro j y hj
    rcases old j y hj with ⟨rfl, rfl⟩ | ⟨_, hj⟩
    · exact ⟨_, hid⟩
    · exact ⟨_, hj⟩
  refine ⟨h.hB, h.below.trans ⟨h2, h3, h4, by omega, fun k hkb => hk k (by omega)⟩, ?_, ?_, ?_, ?_, ?_, ?_, h.newf⟩
  · intro j y b' m hj hi'
    rcases old j y hj with ⟨rfl, rfl⟩ | ⟨hne, hj⟩
    · rw [hi] at hi'; cases hi'; exact ⟨hb, x, hw, ho⟩
    · obtain ⟨hb', obj, hw', hr⟩ := h.obj j y b' m hj hi'
      refine ⟨hb', obj, ?_, hr⟩
      rw [hk b' (fun e => hne (by subst e; exact h.inj j id y o b' m n hj hid hi' hi))]; exact hw'
  · intro j y hj hi'
    rcases old j y hj with ⟨rfl, rfl⟩ | ⟨hne, hj⟩
    · rw [hi] at hi'; cases hi'
    · exact h.ghost j y hj hi'
  · intro j y hj
    obtain ⟨y', hj'⟩ := was _ _ hj
    exact h.dom j y' hj'
  · intro j j' o1 o2 b1 n1 n2 h1 h2 h3 h4
    obtain ⟨y1, h1⟩ := was _ _ h1
    obtain ⟨y2, h2⟩ := was _ _ h2
    exact h.inj j j' y1 y2 b1 n1 n2 h1 h2 h3 h4
  · intro a v hsv
    by_cases e : a.block = b
    · exact (hs a v hsv e).1
    · rw [World.cell?_of_block (w := w) (hk _ e)]; exact h.sure a v hsv
  · intro a v hsv j y b' m hj hi' hb'
    rcases old j y hj with ⟨rfl, rfl⟩ | ⟨hne, hj⟩
    · rw [hi] at hi'; cases hi'
      exact (hs a v hsv hb').2
    · exact h.stab a v hsv j y b' m hj hi' hb'
/-- What a row's cells hold becomes known for good: the row is not written any more (but for what is appended). -/
def froz (σ : Facts) (b : Nat) (n : Nat) (w : World) : Facts := fun a v => σ a v ∨ (a.block = b ∧ a.off < n ∧ w.cell? a = some v)
theorem WR.freeze (h : WR B w0 σ ι H w) {id : Id} {cells : List AV} {ro : Bool} {b n : Nat} (hid : hget H id = some (.row cells ro)) (hi : ι id = some (some (b, n))) :
    WR B w0 (froz σ b cells.length w) ι (hset H id (.row cells true)) w := by
  have hle : ∀ a v, σ a v → froz σ b cells.length w a v := fun _ _ h => .inl h
  have old : ∀ j y, hget (hset H id (.row cells true)) j = some y → j = id ∧ y = .row cells true ∨ j ≠ id ∧ hget H j = some y := by
    intro j y hj
    rw [hget_hset] at hj
    by_cases e : id = j
    · rw [if_pos e, hid] at hj; simp at hj; exact .inl ⟨e.symm, hj.symm⟩
    · rw [if_neg e] at hj; exact .inr ⟨fun e2 => e e2.symm, hj⟩
  have was : ∀ j y, hget (hset H id (.row cells true)) j = some y → ∃ y', hget H j = some y' := by
    intro j y hj
    rcases old j y hj with ⟨rfl, rfl⟩ | ⟨_, hj⟩
    · exact ⟨_, hid⟩
    · exact ⟨_, hj⟩
  refine ⟨h.hB, h.below, ?_, ?_, ?_, ?_, ?_, ?_, fun a v hs => hs.elim (h.newf a v) (fun hs => .inr (by rw [hs.1]; exact (h.obj _ _ _ _ hid hi).1))⟩
  · intro j y b' m hj hi'
    rcases old j y hj with ⟨rfl, rfl⟩ | ⟨hne, hj⟩
    · obtain ⟨hb', obj, hw', hr⟩ := h.obj _ _ _ _ hid hi'
      exact ⟨hb', obj, hw', (show OR _ _ (.row cells true) _ _ from hr.mono hle (fun _ _ h => h))⟩
    · obtain ⟨hb', obj, hw', hr⟩ := h.obj j y b' m hj hi'
      exact ⟨hb', obj, hw', hr.mono hle (fun _ _ h => h)⟩
  · intro j y hj hi'
    rcases old j y hj with ⟨rfl, rfl⟩ | ⟨hne, hj⟩
    · rw [hi] at hi'; cases hi'
    · exact h.ghost j y hj hi'
  · intro j y hj
    obtain ⟨y', hj'⟩ := was _ _ hj
    exact h.dom j y' hj'
  · intro j j' o1 o2 b1 n1 n2 h1 h2 h3 h4
    obtain ⟨y1, h1⟩ := was _ _ h1
    obtain ⟨y2, h2⟩ := was _ _ h2
    exact h.inj j j' y1 y2 b1 n1 n2 h1 h2 h3 h4
  · intro a v hs
    rcases hs with hs | ⟨_, _, hs⟩
    · exact h.sure a v hs
    · exact hs
  · intro a v hs j y b' m hj hi' hb'
    rcases hs with hs | ⟨e1, e2, _⟩
    · rcases old j y hj with ⟨rfl, rfl⟩ | ⟨hne, hj⟩
      · obtain ⟨cs, he, hlt⟩ := h.stab a v hs j _ b' m hid hi' hb'
        cases he; exact ⟨cells, rfl, hlt⟩
      · exact h.stab a v hs j y b' m hj hi' hb'
    · rcases old j y hj with ⟨rfl, rfl⟩ | ⟨hne, hj⟩
      · exact ⟨cells, rfl, e2⟩
      · exfalso
        have : b' = b := hb'.symm.trans e1
        subst this
        exact hne (h.inj j id y _ b' m n hj hid hi' hi)
/-- The cells of a row. -/
theorem WR.cell (h : WR B w0 σ ι H w) {id : Id} {cells : List AV} {ro : Bool} {b n : Nat} (hid : hget H id = some (.row cells ro)) (hi : ι id = some (some (b, n))) {j : Nat} {c : AV} (hc : cells[j]? = some c) :
    ∃ u, w.cell? ⟨b, j, none⟩ = some u ∧ VR σ ι c u ∧ w.frozen? ⟨b, j, none⟩ = false := by
  obtain ⟨_, obj, hw', arr, e, rfl, _, _, hr⟩ := h.obj _ _ _ _ hid hi
  obtain ⟨u, hu, hv⟩ := hr j c hc
  exact ⟨u, by simp [World.cell?, hw', hu], hv, by simp [World.frozen?, hw']⟩
/-- A row that lies nowhere: it is empty. -/
theorem WR.empty (h : WR B w0 σ ι H w) (id : Id) (hid : ι id = none) (ro : Bool) : WR B w0 σ (wput ι id none) ((id, .row [] ro) :: H) w := by
  have hle := wput_le (x := none) hid
  have atid : wput ι id none id = some none := by unfold wput; rw [if_pos rfl]
  have at_ : ∀ j, j ≠ id → wput ι id none j = ι j := fun j hj => by unfold wput; rw [if_neg hj]
  have old : ∀ j o', hget ((id, AO.row [] ro) :: H) j = some o' → j = id ∧ o' = .row [] ro ∨ j ≠ id ∧ hget H j = some o' := by
    intro j o' hj
    simp only [hget] at hj
    by_cases e : id = j
    · rw [if_pos e] at hj; cases hj; exact .inl ⟨e.symm, rfl⟩
    · rw [if_neg e] at hj; exact .inr ⟨fun e2 => e e2.symm, hj⟩
  refine ⟨h.hB, h.below, ?_, ?_, ?_, ?_, h.sure, ?_, h.newf⟩
  · intro j o' b n hj hi
    rcases old j o' hj with ⟨rfl, rfl⟩ | ⟨hne, hj⟩
    · rw [atid] at hi; cases hi
    · rw [at_ _ hne] at hi
      obtain ⟨h1, obj, h2, h3⟩ := h.obj j o' b n hj hi
      exact ⟨h1, obj, h2, h3.mono (fun _ _ h => h) hle⟩
  · intro j o' hj hi
    rcases old j o' hj with ⟨rfl, rfl⟩ | ⟨hne, hj⟩
    · exact ⟨ro, rfl⟩
    · rw [at_ _ hne] at hi; exact h.ghost j o' hj hi
  · intro j o' hj
    rcases old j o' hj with ⟨rfl, rfl⟩ | ⟨hne, hj⟩
    · rw [atid]; simp
    · rw [at_ _ hne]; exact h.dom j o' hj
  · intro j j' o1 o2 b n1 n2 h1 h2 h3 h4
    rcases old j o1 h1 with ⟨rfl, rfl⟩ | ⟨hne, h1'⟩
    · rw [atid] at h3; cases h3
    · rcases old j' o2 h2 with ⟨rfl, rfl⟩ | ⟨hne', h2'⟩
      · rw [atid] at h4; cases h4
      · rw [at_ _ hne] at h3; rw [at_ _ hne'] at h4
        exact h.inj j j' o1 o2 b n1 n2 h1' h2' h3 h4
  · intro a v hs j o' b n hj hi hb
    rcases old j o' hj with ⟨rfl, rfl⟩ | ⟨hne, hj⟩
    · rw [atid] at hi; cases hi
    · rw [at_ _ hne] at hi; exact h.stab a v hs j o' b n hj hi hb
end Go.Proofs.Ythmimpiegnnmdaa
