/- Ranges over functions, walked where they stand. -/
import Derived.Test.YthmimpiegnnmdaaAbs23
namespace Go.Proofs.Ythmimpiegnnmdaa
open Go.RowKit
set_option linter.unusedSimpArgs false
set_option linter.unusedVariables false

/-- A piece of a function's code, by its place. -/
def codeAt : List Nat → Code → Code
  | [], c => c
  | 0 :: r, .seq a _ => codeAt r a
  | _ :: r, .seq _ b => codeAt r b
  | _ :: r, .block _ c => codeAt r c
  | _ :: r, .loop c => codeAt r c
  | _ :: r, .scope c => codeAt r c
  | 0 :: r, .cond _ a _ => codeAt r a
  | _ :: r, .cond _ _ b => codeAt r b
  | 0 :: r, .rangeFunc _ _ a _ => codeAt r a
  | _ :: r, .rangeFunc _ _ _ b => codeAt r b
  | _, c => c
def fcode (f : Func) (l : List Nat) : Code := codeAt l (f.body.getD .skip)
/-- The statement, its function's call told. -/
theorem at_rf {P : Program} {nt : Nat} {Q : Exit → St → Prop} {g : Operand} {ps : Array Tmp} {asg body : Code} {T : Tm} {H : Hp} {p : Id} {n : Nat} (f : FuncId) (cap : List AV) (v : AV) (H' : Hp) (T1 : Tm) (nt1 : Nat) (ps1 : List Nat) (asg1 body1 : Code) (l : List Nat) (k : List Id) (T2 : Tm) (H2 : Hp)
    (hg : evo T g = .fn (.func f) cap) (hgo : opdOk g = true) (hf : tFn P f = true)
    (hc : CallOK P f (.yl ((n + 1) :: p) :: cap) (((n + 1) :: p, .loop T nt ps.toList asg body .ready none) :: (n :: p, .dfr) :: H) ((n + 2) :: p) (fun v1 H1 => v1 = v ∧ H1 = H'))
    (hl : hget H' ((n + 1) :: p) = some (.loop T1 nt1 ps1 asg1 body1 .ready none))
    (hT : (1000000, dpush (tget T 1000000) (.ptr (n :: p) 0)) :: l.map (fun t => (t, tget T t)) = T2) (hl0 : l.contains 1000000 = false) (hH : keepH k (hset H' ((n + 1) :: p) .gone) = H2)
    (hk : Q .normal ⟨T2, H2, p, n + 3⟩) : AT ⟨P, none, nt⟩ (.rangeFunc g ps asg body) Q ⟨T, H, p, n⟩ := by
  subst hT hH
  refine at_post (Q' := fun e s => e = .normal ∧ s = ⟨(1000000, dpush (tget T 1000000) (.ptr (n :: p) 0)) :: T, hset H' ((n + 1) :: p) .gone, p, n + 3⟩) (at_rangeFunc hg hgo hf hc ?_) ?_
  · rintro v1 H1 ⟨_, rfl⟩
    exact ⟨T1, nt1, ps1, asg1, body1, .ready, none, hl, by simp, rfl, rfl⟩
  · rintro e s ⟨rfl, rfl⟩
    refine ⟨⟨(1000000, dpush (tget T 1000000) (.ptr (n :: p) 0)) :: l.map (fun t => (t, tget T t)), keepH k (hset H' ((n + 1) :: p) .gone), p, n + 3⟩, Gh.less (fun t => ?_) rfl (keepH_sub k _) (Nat.le_refl _), hk⟩
    simp only [tget]
    split
    · exact .inl rfl
    · rename_i hne
      clear hl0 hk
      induction l with
      | nil => exact .inr rfl
      | cons x l ih =>
        simp only [List.map_cons, tget]
        split
        · rename_i e; subst e; exact .inl rfl
        · exact ih
def asgQ (P : Program) (l nt : Nat) (i q : Id) (post : AV → Hp → Prop) : Exit → St → Prop := fun e s => e = .normal ∧ ∃ T1 nt1 ps1 asg1 body1 j1, hget s.H i = some (.loop T1 nt1 ps1 asg1 body1 .ready j1) ∧
  AT ⟨P, some l, nt⟩ body1 (roundQ i q post) ⟨s.T, hset s.H i (.loop T1 nt1 ps1 asg1 body1 .busy j1), s.p, s.n⟩
theorem yld_in {P : Program} {i : Id} {args : List AV} {H : Hp} {q : Id} {v : AV} {H' : Hp} (T : Tm) (nt : Nat) (ps : List Nat) (asg body : Code) (j : Option Code)
    (hi : hget H i = some (.loop T nt ps asg body .ready j)) (hn : (Nat.beq args.length ps.length && ps.all (fun t => Nat.blt t nt) && Nat.ble nt 1000000) = true)
    (h : ∀ l, AT ⟨P, some l, nt⟩ asg (fun e s => e = .normal ∧ ∃ T1 nt1 ps1 asg1 j1, hget s.H i = some (.loop T1 nt1 ps1 asg1 body .ready j1) ∧
      AT ⟨P, some l, nt⟩ body (roundQ i q (fun v1 H1 => v1 = v ∧ ∀ id o, hget H' id = some o → hget H1 id = some o)) ⟨s.T, hset s.H i (.loop T1 nt1 ps1 asg1 body .busy j1), s.p, s.n⟩) ⟨(1000000, .any) :: tsets ps args T, H, q, 0⟩) : YldOK P i args H q (fun v1 H1 => v1 = v ∧ H1 = H') := by
  simp only [Bool.and_eq_true] at hn
  have hn' : args.length = ps.length ∧ (∀ t ∈ ps, t < nt) ∧ nt ≤ 1000000 := by
    refine ⟨Nat.eq_of_beq_eq_true hn.1.1, fun t ht => ?_, Nat.le_of_ble_eq_true hn.2⟩
    exact Nat.le_of_ble_eq_true (List.all_eq_true.1 hn.1.2 t ht)
  have hy := yld_of_at (post := fun v1 H1 => v1 = v ∧ ∀ id o, hget H' id = some o → hget H1 id = some o) hi hn' (fun l => at_mono (h l) fun e s ⟨he, T1, nt1, ps1, asg1, j1, h1, h2⟩ => ⟨he, T1, nt1, ps1, asg1, body, j1, h1, h2⟩)
  intro B w0 σ ι w us l n hw hq hus hil
  obtain ⟨f, tmps, asg', body', h1, h2⟩ := hy B w0 σ ι w us l n hw hq hus hil
  refine ⟨f, tmps, asg', body', h1, h2.1, fun c cs hr => ?_⟩
  obtain ⟨e, w', ⟨v', u, H1, σ', ι', he, ⟨hv, hH⟩, hvr, hwr, rest⟩, x⟩ := h2.2 c cs hr
  exact ⟨e, w', ⟨v', u, H', σ', ι', he, ⟨hv, rfl⟩, hvr, hwr.weaken hH, rest⟩, x⟩
/-- The end of a round's assignment. -/
theorem asg_end {P : Program} {l nt : Nat} {i q : Id} {body : Code} {post : AV → Hp → Prop} {T : Tm} {H H1 : Hp} {p : Id} {n : Nat} (T1 : Tm) (nt1 : Nat) (ps1 : List Nat) (asg1 : Code) (j1 : Option Code)
    (h1 : hget H i = some (.loop T1 nt1 ps1 asg1 body .ready j1)) (hH : hset H i (.loop T1 nt1 ps1 asg1 body .busy j1) = H1) (h2 : AT ⟨P, some l, nt⟩ body (roundQ i q post) ⟨T, H1, p, n⟩) :
    (fun (e : Exit) (s : St) => e = .normal ∧ ∃ T1 nt1 ps1 asg1 j1, hget s.H i = some (.loop T1 nt1 ps1 asg1 body .ready j1) ∧
      AT ⟨P, some l, nt⟩ body (roundQ i q post) ⟨s.T, hset s.H i (.loop T1 nt1 ps1 asg1 body .busy j1), s.p, s.n⟩) .normal ⟨T, H, p, n⟩ := by
  subst hH
  exact ⟨rfl, T1, nt1, ps1, asg1, j1, h1, h2⟩
theorem round_end {i q : Id} {v : AV} {H' : Hp} {T : Tm} {H : Hp} {p : Id} {n : Nat} (k : List Id) (T1 : Tm) (nt1 : Nat) (ps1 : List Nat) (asg1 body1 : Code) (st : LoopState) (j1 : Option Code)
    (h1 : hget H i = some (.loop T1 nt1 ps1 asg1 body1 st j1)) (hv : v = .tv (.bool true)) (hH : keepH k (hset H i (.loop T1 nt1 ps1 asg1 body1 .ready none)) = H') :
    roundQ i q (fun v1 H1 => v1 = v ∧ ∀ id o, hget H' id = some o → hget H1 id = some o) .normal ⟨T, H, p, n⟩ := by
  subst hH hv
  exact ⟨T1, nt1, ps1, asg1, body1, st, j1, h1, rfl, keepH_sub k _⟩
theorem round_exit {i q : Id} {v : AV} {H' : Hp} {T : Tm} {H : Hp} {p : Id} {n : Nat} (x : Nat) (k : List Id) (T1 : Tm) (nt1 : Nat) (ps1 : List Nat) (asg1 body1 : Code) (st : LoopState) (j1 : Option Code)
    (h1 : hget H i = some (.loop T1 nt1 ps1 asg1 body1 st j1)) (hv : v = .tv (.bool false)) (hH : keepH k (hset H i (.loop T1 nt1 ps1 asg1 body1 .done (some (.exit x)))) = H') :
    roundQ i q (fun v1 H1 => v1 = v ∧ ∀ id o, hget H' id = some o → hget H1 id = some o) (.exit x) ⟨T, H, p, n⟩ := by
  subst hH hv
  exact ⟨T1, nt1, ps1, asg1, body1, st, j1, h1, rfl, keepH_sub k _⟩
theorem round_ret {i q : Id} {v : AV} {H' : Hp} {T : Tm} {H : Hp} {p : Id} {n : Nat} (k : List Id) (T1 : Tm) (nt1 : Nat) (ps1 : List Nat) (asg1 body1 : Code) (st : LoopState) (j1 : Option Code)
    (h1 : hget H i = some (.loop T1 nt1 ps1 asg1 body1 st j1)) (hv : v = .tv (.bool false)) (hH : keepH k (hset H i (.loop T1 nt1 ps1 asg1 body1 .done (some .ret))) = H') :
    roundQ i q (fun v1 H1 => v1 = v ∧ ∀ id o, hget H' id = some o → hget H1 id = some o) .ret ⟨T, H, p, n⟩ := by
  subst hH hv
  exact ⟨T1, nt1, ps1, asg1, body1, st, j1, h1, rfl, keepH_sub k _⟩
/-- A nil slice in a cell, told as an empty one of one's own. -/
theorem Gh.ownc {T : Tm} {H : Hp} {p : Id} {n : Nat} (i : Id) (j sz : Nat) (cells : List AV) (ro : Bool) (hi : hget H i = some (.row cells ro)) (hj : cells[j]? = some (.tv .nils)) :
    Gh ⟨T, H, p, n⟩ ⟨T, (n :: p, .row [] false) :: hset H i (.row (cells.set j (.sl (n :: p) sz 0 0)) ro), p, n + 1⟩ := by
  rintro E B w0 σ0 ι0 q ds a w ⟨σ, ι, hs⟩
  have hid : ι (n :: p) = none := hs.fr _ n (Nat.le_refl _) (List.suffix_refl _)
  have hle := wput_le (x := none) hid
  have hne : ∀ j, j ≠ n :: p → wput ι (n :: p) none j = ι j := fun j hj => by unfold wput; rw [if_neg hj]
  have hw := hs.wr
  have hw1 : WR B w0 σ ι (hset H i (.row (cells.set j (.sl (n :: p) sz 0 0)) ro)) w := by
    have was : ∀ k y, hget (hset H i (.row (cells.set j (.sl (n :: p) sz 0 0)) ro)) k = some y → (k = i ∧ y = .row (cells.set j (.sl (n :: p) sz 0 0)) ro) ∨ (k ≠ i ∧ hget H k = some y) := by
      intro k y hk
      rw [hget_hset] at hk
      by_cases e : i = k
      · rw [if_pos e, hi] at hk; simp at hk; exact .inl ⟨e.symm, hk.symm⟩
      · rw [if_neg e] at hk; exact .inr ⟨fun e2 => e e2.symm, hk⟩
    have was' : ∀ k y, hget (hset H i (.row (cells.set j (.sl (n :: p) sz 0 0)) ro)) k = some y → ∃ y', hget H k = some y' := by
      intro k y hk
      rcases was k y hk with ⟨rfl, _⟩ | ⟨_, h⟩
      · exact ⟨_, hi⟩
      · exact ⟨_, h⟩
    refine ⟨hw.hB, hw.below, ?_, ?_, ?_, ?_, hw.sure, ?_, hw.newf⟩
    · intro k y b m hk hkb
      rcases was k y hk with ⟨rfl, rfl⟩ | ⟨_, h⟩
      · obtain ⟨h1, obj, h2, arr, e, h3, h4, h5, h6⟩ := hw.obj _ _ b m hi hkb
        refine ⟨h1, obj, h2, arr, e, h3, h4, by simpa using h5, fun x c hx => ?_⟩
        rw [List.getElem?_set] at hx
        by_cases exj : j = x
        · subst exj
          rw [if_pos rfl] at hx
          split at hx
          · cases hx
            obtain ⟨u, hu, hv⟩ := h6 j _ hj
            refine ⟨u, hu, ?_⟩
            cases hv with
            | tv hv => cases hv; exact .sl0 _ _ _ _
          · cases hx
        · rw [if_neg exj] at hx; exact h6 x c hx
      · exact hw.obj k y b m h hkb
    · intro k y hk hkb
      rcases was k y hk with ⟨rfl, rfl⟩ | ⟨_, h⟩
      · obtain ⟨ro', e⟩ := hw.ghost _ _ hi hkb
        cases e; simp at hj
      · exact hw.ghost k y h hkb
    · intro k y hk
      obtain ⟨y', h⟩ := was' k y hk
      exact hw.dom k y' h
    · intro k k' y y' b m m' h1 h2
      obtain ⟨y1, h1⟩ := was' _ _ h1
      obtain ⟨y2, h2⟩ := was' _ _ h2
      exact hw.inj k k' y1 y2 b m m' h1 h2
    · intro ad v hsv k y b m hk hkb hb
      rcases was k y hk with ⟨rfl, rfl⟩ | ⟨_, h⟩
      · obtain ⟨cs, e, hlt⟩ := hw.stab ad v hsv _ _ b m hi hkb hb
        cases e; exact ⟨_, rfl, by simpa using hlt⟩
      · exact hw.stab ad v hsv k y b m h hkb hb
  refine ⟨σ, wput ι (n :: p) none, hs.le, fun j y h => hle _ _ (hs.lei j y h), fun k hk => ?_, hw1.empty _ hid false, fun k => (hs.tr k).mono (fun _ _ h => h) hle, hs.nt, hs.qp, fun x k hk hx => ?_, hs.df.mono (fun _ _ h => h) hle, hs.nk⟩
  · rw [hne k (fun e => by subst e; exact hk (hs.qp.trans (List.suffix_cons _ _)))]; exact hs.out k hk
  · have hk' : n + 1 ≤ k := hk
    rw [hne x (fun e => by subst e; have := suffix_cons_ne hx (List.suffix_refl _); omega)]
    exact hs.fr x k (by show n ≤ k; omega) hx

theorem at_keepB {E : En} {Q : Exit → St → Prop} {c : Code} {T : Tm} {H : Hp} {p : Id} {n : Nat} (l : List Nat) (T1 : Tm) (h : tkeep l T = T1) (hk : AT E c Q ⟨T1, H, p, n⟩) : AT E c Q ⟨T, H, p, n⟩ := by
  subst h; exact at_pre (Gh.keep l T H p n) hk
/-! ### Elements of a list of one's own -/
theorem getD_of_lt {α : Type} {l : List α} {i : Nat} {d : α} (h : i < l.length) : l.getD i d = l[i] := by
  rw [List.getD_eq_getElem?_getD, List.getElem?_eq_getElem h]; rfl
theorem flat_append {α : Type} {enc : α → List TV} (a b : List α) : flat enc (a ++ b) = flat enc a ++ flat enc b := by simp [flat]
theorem flat_cons {α : Type} {enc : α → List TV} (a : α) (b : List α) : flat enc (a :: b) = (enc a).map .tv ++ flat enc b := by simp [flat]
theorem flat_split {α : Type} {enc : α → List TV} {sz : Nat} (hz : ∀ a, (enc a).length = sz) {l : List α} {i : Nat} (h : i < l.length) :
    flat enc l = flat enc (l.take i) ++ ((enc l[i]).map .tv ++ flat enc (l.drop (i + 1))) ∧ (flat enc (l.take i)).length = i * sz := by
  refine ⟨?_, by rw [flat_len hz, List.length_take, Nat.min_eq_left (by omega)]⟩
  have e : l = l.take i ++ (l[i] :: l.drop (i + 1)) := by simp
  rw [← flat_cons, ← flat_append, ← e]
theorem evLoad_flat {P : Program} {H : Hp} {t : TypeId} {id : Id} {α : Type} {enc : α → List TV} {sz : Nat} {l : List α} {ro : Bool} {i : Nat} {d : α} (hg : tAgg P t = some true) (hs : tSz P t = some sz) (hH : hget H id = some (.row (flat enc l) ro)) (hz : ∀ a, (enc a).length = sz) (h : i < l.length) :
    evLoad P H t (.ptr id ((0 + i) * sz)) = .val (.agg ((enc (l.getD i d)).map .tv)) .no := by
  obtain ⟨e1, e2⟩ := flat_split hz h
  have e3 : ((flat enc l).drop ((0 + i) * sz)).take sz = (enc l[i]).map .tv := by
    rw [e1, Nat.zero_add, List.drop_append_of_le_length (by omega), List.drop_of_length_le (by omega), List.nil_append, List.take_append_of_le_length (by simp [hz]), List.take_of_length_le (by simp [hz])]
  simp only [evLoad, hg, hs, hH, e3, chk]
  rw [if_pos ⟨by simp [hz], .inl trivial⟩, getD_of_lt h]
  rfl
theorem evStore_flat {P : Program} {H : Hp} {t : TypeId} {id : Id} {α : Type} {enc : α → List TV} {sz : Nat} {l : List α} {i : Nat} {a : α} (hs : tSz P t = some sz) (hH : hget H id = some (.row (flat enc l) false)) (hz : ∀ a, (enc a).length = sz) (hone : ∀ a, ((enc a).map AV.tv).all AV.one = true) (h : i < l.length) :
    evStore P H t (.ptr id ((0 + i) * sz)) (.agg ((enc a).map .tv)) = .val (.tup []) (.upd id (.row (flat enc (l.set i a)) false)) := by
  obtain ⟨e1, e2⟩ := flat_split hz h
  have hl : ((enc a).map AV.tv).length = sz := by simp [hz]
  have e3 : splice (flat enc l) ((0 + i) * sz) ((enc a).map .tv) = flat enc (l.set i a) := by
    unfold splice
    rw [hl, e1, Nat.zero_add, List.take_append_of_le_length (by omega), List.take_of_length_le (by omega), ← List.drop_drop, List.drop_append_of_le_length (by omega), List.drop_of_length_le (Nat.le_of_eq e2), List.nil_append, List.drop_append_of_le_length (by simp [hz]), List.drop_of_length_le (by simp [hz]), List.nil_append]
    rw [List.set_eq_take_append_cons_drop, if_pos h]
    rw [flat_append, flat_cons]
    simp
  have e4 : (0 + i) * sz + sz ≤ (flat enc l).length := by
    rw [flat_len hz, Nat.zero_add, ← Nat.succ_mul]; exact Nat.mul_le_mul_right _ h
  simp only [evStore, hs, hH, AV.cells, e3, chk]
  rw [if_pos ⟨hl, hone a, e4⟩]
theorem frz_flat2 {α : Type} {H : Hp} {i : Id} {enc : α → List TV} {l : List α} {sz len : Nat} {ro : Bool} (hh : hget H i = some (.row (flat enc l) ro)) (hz : ∀ a, (enc a).length = sz) (h0 : 0 < sz) (hl : l.length = len) :
    frzV H (.sl i sz 0 len) = some (.tv (.sli sz (l.map enc)), hset H i (.row (flat enc l) true)) := by
  subst hl; exact frz_flat hh hz h0
/-! ### Maps from texts to truth values -/
def mB (m : List (ByteArray × Bool)) : List (ByteArray × AV) := m.map fun x => (x.1, .tv (.bool x.2))
def mgetB : List (ByteArray × Bool) → ByteArray → Bool
  | [], _ => false
  | (k, v) :: r, q => if k = q then v else mgetB r q
def mputB : List (ByteArray × Bool) → ByteArray → Bool → List (ByteArray × Bool)
  | [], q, x => [(q, x)]
  | (k, v) :: r, q, x => if k = q then (k, x) :: r else (k, v) :: mputB r q x
theorem mB_get (m : List (ByteArray × Bool)) (q : ByteArray) : (sget (mB m) q).getD (.tv (.bool false)) = .tv (.bool (mgetB m q)) := by
  induction m with
  | nil => rfl
  | cons x r ih =>
    obtain ⟨k, v⟩ := x
    simp only [mB, List.map_cons, sget, mgetB]
    split
    · rfl
    · exact ih
theorem mB_put (m : List (ByteArray × Bool)) (q : ByteArray) (b : Bool) : sput (mB m) q (.tv (.bool b)) = mB (mputB m q b) := by
  induction m with
  | nil => rfl
  | cons x r ih =>
    obtain ⟨k, v⟩ := x
    simp only [mB, List.map_cons, sput, mputB]
    split
    · rfl
    · simp only [mB] at ih; rw [ih]; rfl
theorem clO_mB (m : List (ByteArray × Bool)) : clO (.smap (mB m)) := by
  intro x hx
  unfold mB at hx
  obtain ⟨y, _, rfl⟩ := List.mem_map.1 hx
  exact ⟨_, rfl⟩
theorem mB_len (m : List (ByteArray × Bool)) : (mB m).length = m.length := by simp [mB]
theorem mput_get (m : List (ByteArray × Bool)) (q : ByteArray) (b : Bool) (r : ByteArray) : mgetB (mputB m q b) r = if q = r then b else mgetB m r := by
  induction m with
  | nil => simp [mputB, mgetB]
  | cons x l ih =>
    obtain ⟨k, v⟩ := x
    simp only [mputB]
    by_cases e : k = q
    · subst e
      simp only [if_true, mgetB]
      split <;> rfl
    · simp only [e, if_false, mgetB, ih]
      by_cases e2 : k = r
      · subst e2
        have : ¬ q = k := fun h => e h.symm
        simp [this]
      · simp [e2]
/-! ### A list of one's own, handed to a call -/
theorem frz1_flat {α : Type} {H : Hp} {i : Id} {enc : α → List TV} {l : List α} {sz len : Nat} {ro : Bool} {r : List AV} (hh : hget H i = some (.row (flat enc l) ro)) (hz : ∀ a, (enc a).length = sz) (h0 : 0 < sz) (hl : l.length = len) :
    frz1 H (.sl i sz 0 len :: r) = some (.tv (.sli sz (l.map enc)) :: r, i, .row (flat enc l) true) := by
  subst hl
  have ht : tvs (flat enc l) = some (l.map enc).flatten := tvs_map _
  have hl := flat_len hz l
  unfold flat at hl
  rw [List.length_map] at hl
  simp only [frz1, hh, ht]
  rw [if_pos ⟨trivial, hl, h0⟩, chunk_flat hz]
theorem frz1_tv {H : Hp} {t : TV} {r r' : List AV} {i : Id} {o : AO} (h : frz1 H r = some (r', i, o)) : frz1 H (.tv t :: r) = some (.tv t :: r', i, o) := by
  simp only [frz1, h]
theorem frz1_agg {H : Hp} {t : List AV} {r r' : List AV} {i : Id} {o : AO} (h : frz1 H r = some (r', i, o)) : frz1 H (.agg t :: r) = some (.agg t :: r', i, o) := by
  simp only [frz1, h]
theorem frzV_tv {H : Hp} {t : TV} : frzV H (.tv t) = some (.tv t, H) := rfl
theorem frzV_agg {H : Hp} {t : List AV} : frzV H (.agg t) = some (.agg t, H) := rfl
theorem frzs_to {H H1 H2 : Hp} {l l' : List AV} (e : H1 = H2) (h : frzs l H = some (l', H1)) : frzs l H = some (l', H2) := e ▸ h
end Go.Proofs.Ythmimpiegnnmdaa
