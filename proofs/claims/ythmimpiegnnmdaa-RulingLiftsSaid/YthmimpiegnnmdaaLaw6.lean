/- A new lift at the end. -/
import Derived.Test.YthmimpiegnnmdaaLaw4
import Derived.Test.YthmimpiegnnmdaaLaw5
namespace Go.Proofs.Ythmimpiegnnmdaa
open Go.RowKit
set_option linter.unusedSimpArgs false
set_option linter.unusedVariables false
variable {f : ByteArray → Bool} {kn : Int} {m m' : ByteArray → Bool}

abbrev nmX : ByteArray := ⟨#[110, 101, 119, 108, 105, 102, 116]⟩
abbrev nmY : ByteArray := ⟨#[110, 101, 119, 101, 114, 108, 105, 102, 116]⟩
theorem valid_id {r : Ru} (h : validP r = true) : nameP r.id = true := by
  unfold validP at h
  cases hn : nameP r.id with
  | true => rfl
  | false => rw [hn] at h; simp at h
theorem valid_lift {n q : ByteArray} (hn : nameP n = true) (h : nameP q = true) : validP (liftR n q) = true := by
  unfold validP liftR
  have h2 : nameP ⟨#[112]⟩ = true := by decide +kernel
  have h3 : daysP [0, 0, 0] = true := by decide
  simp only [hn, h2, h3, h]
  rfl
theorem nameX : nameP nmX = true := by decide +kernel
theorem nameY : nameP nmY = true := by decide +kernel
theorem err_or {l : List Ru} {kn : Int} (hd : daysP [kn] = true) (hl : l.length ≤ 200) (hv : ∀ r ∈ l, validP r = true) : (countP l kn).2 = 0 ∨ (countP l kn).2 = 9 := by
  rcases count_cases l kn with ⟨_, h⟩ | ⟨_, _, _, h⟩
  · left; rw [h]
  · right; exact h hd hl hv
structure L8 (l : List Ru) (kn : Int) (i : Nat) : Prop where
  ok : OkC l kn
  len : l.length ≤ 12
  hi : i < l.length
abbrev lX (l : List Ru) (i : Nat) : Ru := liftR nmX (l.getD i Ru.z).id
abbrev lY : Ru := liftR nmY nmX
variable {l : List Ru} {i : Nat}
theorem L8.split (h : L8 l kn i) : l = l.take i ++ l.getD i Ru.z :: l.drop (i + 1) := by rw [← drop_get l i Ru.z h.hi, List.take_append_drop]
theorem L8.valX (h : L8 l kn i) : validP (lX l i) = true := valid_lift nameX (valid_id (h.ok.val _ (getD_mem h.hi)))
theorem L8.eb (h : L8 l kn i) : (countP (l ++ [lX l i]) kn).2 = 0 ∨ (countP (l ++ [lX l i]) kn).2 = 9 :=
  err_or h.ok.day (by have := h.len; simp; omega) (fun r hr => by
    simp only [List.mem_append, List.mem_singleton] at hr
    rcases hr with hr | rfl
    · exact h.ok.val r hr
    · exact h.valX)
theorem L8.ec (h : L8 l kn i) : (countP ((l ++ [lX l i]) ++ [lY]) kn).2 = 0 ∨ (countP ((l ++ [lX l i]) ++ [lY]) kn).2 = 9 :=
  err_or h.ok.day (by have := h.len; simp; omega) (fun r hr => by
    simp only [List.mem_append, List.mem_singleton] at hr
    rcases hr with (hr | rfl) | rfl
    · exact h.ok.val r hr
    · exact h.valX
    · exact valid_lift nameY nameX)
theorem L8.subd (h : L8 l kn i) : List.Sublist (l.take i ++ l.drop (i + 1)) l := by
  have e := h.split
  conv => rhs; rw [e]
  exact (List.Sublist.refl _).append (List.sublist_cons_self _ _)
theorem L8.okd (h : L8 l kn i) : OkC (l.take i ++ l.drop (i + 1)) kn := h.ok.sub h.subd
theorem L8.ed (h : L8 l kn i) : (countP (l.take i ++ l.drop (i + 1)) kn).2 = 0 := by rw [count_ok h.okd]
theorem L8.kn0 (h : L8 l kn i) : 0 ≤ kn := by
  have := h.ok.day
  rw [days1] at this
  simp only [Bool.and_eq_true, decide_eq_true_eq] at this
  exact this.1
theorem L8.ids (h : L8 l kn i) : ∀ r ∈ l.take i ++ l.drop (i + 1), r.id ≠ (l.getD i Ru.z).id := by
  have hp := (apart_pw l).1 h.ok.apart
  rw [h.split, List.pairwise_append, List.pairwise_cons] at hp
  intro r hr
  rw [List.mem_append] at hr
  rcases hr with hr | hr
  · exact hp.2.2 r hr _ (by simp)
  · exact (hp.2.1.1 r hr).symm
theorem any_none {q : ByteArray} (s : List Ru) (h : ∀ r ∈ s, r.id ≠ q) : finalR s q kn = false := by
  unfold finalR
  rw [List.any_eq_false]
  intro r hr
  simp [finP, h r hr]
theorem fin_mid (a b : List Ru) (r : Ru) (q : ByteArray) : finalR (a ++ r :: b) q kn = (finP q kn r || finalR (a ++ b) q kn) := by
  unfold finalR
  simp only [List.any_append, List.any_cons]
  cases a.any (finP q kn) <;> cases finP q kn r <;> rfl
theorem L8.one (h : L8 l kn i) : oneF l kn (l.getD i Ru.z).id = ((l.getD i Ru.z).fin && decide ((l.getD i Ru.z).kn ≤ kn)) := by
  have e := h.split
  show finalR l (l.getD i Ru.z).id kn = _
  have : finalR l (l.getD i Ru.z).id kn = finalR (l.take i ++ l.getD i Ru.z :: l.drop (i + 1)) (l.getD i Ru.z).id kn := by rw [← e]
  rw [this, fin_mid, any_none _ h.ids, Bool.or_false]
  simp [finP]
theorem L8.oned (h : L8 l kn i) (hf : ((l.getD i Ru.z).fin && decide ((l.getD i Ru.z).kn ≤ kn)) = false) (q : ByteArray) : oneF (l.take i ++ l.drop (i + 1)) kn q = oneF l kn q := by
  have e := h.split
  show finalR _ q kn = finalR l q kn
  have : finalR l q kn = finalR (l.take i ++ l.getD i Ru.z :: l.drop (i + 1)) q kn := by rw [← e]
  rw [this, fin_mid]
  have : finP q kn (l.getD i Ru.z) = false := by
    unfold finP
    rw [Bool.and_assoc, hf, Bool.and_false]
  rw [this, Bool.false_or]
theorem lift_fields (n q : ByteArray) : (liftR n q).kd = 6 ∧ (liftR n q).fin = false ∧ (liftR n q).kn = 0 ∧ (liftR n q).lf = q ∧ (liftR n q).id = n := ⟨rfl, rfl, rfl, rfl, rfl⟩
theorem sk_lift (hk : 0 ≤ kn) (n q : ByteArray) (lq : Bool) : skS f kn lq (liftR n q) = (f q || lq) := by
  unfold skS
  rw [decide_eq_false (by show ¬ kn < 0; omega)]
  show ((false || (decide ((6 : Int) = 6) && f q)) || lq) = (f q || lq)
  simp
theorem lf_lift (hk : 0 ≤ kn) (n q p : ByteArray) : lfS f kn nonS [liftR n q] p = (!f q && decide (q = p)) := by
  simp only [lfS, sk_lift hk]
  show (false || ((!(f q || false) && decide ((6 : Int) = 6)) && decide (q = p))) = _
  simp
/-- What counts with the lift at the end. -/
theorem L8.b (h : L8 l kn i) (hb : (countP (l ++ [lX l i]) kn).2 = 0) : (countP (l ++ [lX l i]) kn).1 = otS (oneF l kn) kn (fun p => !oneF l kn (l.getD i Ru.z).id && decide ((l.getD i Ru.z).id = p)) l ++ (bif oneF l kn (l.getD i Ru.z).id then [] else [lX l i]) := by
  rw [count_ok (count_was hb), ot_ext _ (one_app l (lX l i) kn rfl)]
  show otS _ _ _ (l ++ [lX l i]) = _
  rw [ot_app, ot_one, sk_lift h.kn0]
  have e : lfS (oneF l kn) kn nonS [lX l i] = fun p => !oneF l kn (l.getD i Ru.z).id && decide ((l.getD i Ru.z).id = p) := funext fun p => lf_lift h.kn0 _ _ p
  rw [e]
  simp [nonS]
theorem L8.late (h : L8 l kn i) (hk : kn < (l.getD i Ru.z).kn) (hb : (countP (l ++ [lX l i]) kn).2 = 0) : (countP (l ++ [lX l i]) kn).1 = (countP l kn).1 ++ [lX l i] := by
  have hf : oneF l kn (l.getD i Ru.z).id = false := by rw [h.one, decide_eq_false (by omega), Bool.and_false]
  rw [h.b hb, hf, cond_false, count_ok h.ok]
  show _ = otS (oneF l kn) kn nonS l ++ _
  congr 1
  have e := h.split
  have hs : ∀ lq, skS (oneF l kn) kn lq (l.getD i Ru.z) = true := fun lq => by simp only [skS, hk, decide_true, Bool.true_or]
  have g : ∀ m, otS (oneF l kn) kn m l = otS (oneF l kn) kn m (l.take i ++ l.drop (i + 1)) := fun m => by
    have := ot_skip (f := oneF l kn) (kn := kn) (m := m) (l.take i) (l.drop (i + 1)) (l.getD i Ru.z) (hs _)
    rw [← e] at this; exact this
  rw [g, g nonS]
  exact (ot_congr _ fun r hr => by (show (!false && decide ((l.getD i Ru.z).id = r.id)) = false); rw [decide_eq_false (h.ids r hr).symm]; rfl).1
theorem L8.final (h : L8 l kn i) (hk : (l.getD i Ru.z).kn ≤ kn) (hf : (l.getD i Ru.z).fin = true) (hb : (countP (l ++ [lX l i]) kn).2 = 0) : (countP (l ++ [lX l i]) kn).1 = (countP l kn).1 := by
  have hf : oneF l kn (l.getD i Ru.z).id = true := by rw [h.one, decide_eq_true hk, hf]; rfl
  rw [h.b hb, hf, cond_true, List.append_nil, count_ok h.ok]
  exact (ot_congr _ fun r hr => by simp [nonS]).1
theorem L8.lifted (h : L8 l kn i) (hf : (l.getD i Ru.z).fin = false) (hb : (countP (l ++ [lX l i]) kn).2 = 0) : (countP (l ++ [lX l i]) kn).1 = (countP (l.take i ++ l.drop (i + 1)) kn).1 ++ [lX l i] := by
  have hf2 : oneF l kn (l.getD i Ru.z).id = false := by rw [h.one, hf]; rfl
  rw [h.b hb, hf2, cond_false, count_ok h.okd]
  show _ = otS _ kn nonS _ ++ _
  congr 1
  rw [ot_ext _ (h.oned (by rw [hf]; rfl))]
  have e := h.split
  have hs := ot_skip (f := oneF l kn) (kn := kn) (m := fun p => !false && decide ((l.getD i Ru.z).id = p)) (l.take i) (l.drop (i + 1)) (l.getD i Ru.z) (by
    unfold skS
    rw [lf_up (by simp), Bool.or_true])
  rw [← e] at hs
  rw [hs]
  exact (ot_congr _ fun r hr => by (show (!false && decide ((l.getD i Ru.z).id = r.id)) = false); rw [decide_eq_false (h.ids r hr).symm]; rfl).1
theorem L8.back (h : L8 l kn i) (hb : (countP (l ++ [lX l i]) kn).2 = 0) (hc : (countP ((l ++ [lX l i]) ++ [lY]) kn).2 = 0) : (countP ((l ++ [lX l i]) ++ [lY]) kn).1 = (countP l kn).1 ++ [lY] := by
  have hn : ∀ r ∈ l, r.id ≠ nmX := fun r hr => by
    have hp := (apart_pw _).1 (count_was hb).apart
    rw [List.pairwise_append] at hp
    exact hp.2.2 r hr (lX l i) (by simp)
  have hfn : oneF l kn nmX = false := any_none l hn
  have h1 : ∀ q, oneF ((l ++ [lX l i]) ++ [lY]) kn q = oneF l kn q := fun q => (one_app (l ++ [lX l i]) lY kn rfl q).trans (one_app l (lX l i) kn rfl q)
  rw [count_ok (count_was hc), ot_ext _ h1, count_ok h.ok]
  show otS (oneF l kn) kn nonS ((l ++ [lX l i]) ++ [lY]) = otS (oneF l kn) kn nonS l ++ [lY]
  rw [List.append_assoc]
  show otS (oneF l kn) kn nonS (l ++ lX l i :: [lY]) = _
  rw [ot_skip l [lY] (lX l i) (by
    rw [lf_lift h.kn0, hfn]
    unfold skS
    show (_ || (!false && decide (nmX = nmX))) = true
    simp), ot_app, ot_one, sk_lift h.kn0, hfn]
  show _ ++ [lY] = _
  congr 1
  refine (ot_congr _ fun r hr => ?_).1
  rw [lf_lift h.kn0, decide_eq_false (fun e => hn r hr e.symm), Bool.and_false]; rfl
theorem wr_av (n : Int) (h : -9223372036854775808 ≤ n ∧ n ≤ 9223372036854775807) : AV.tv (.int .i64 (wr n)) = .tv (.int .i64 n) := by rw [wr_fit n h]
theorem rem_nat {l : List Ru} {raw : Int} (h : 0 ≤ raw) (hl : (l.length : Int) ≠ 0) : ∃ i : Nat, raw.tmod (((l.map celR).length : Nat) : Int) = ((i : Nat) : Int) ∧ i < l.length := by
  rw [List.length_map]
  have h1 : 0 ≤ raw.tmod (l.length : Int) := Int.tmod_nonneg _ h
  have h2 : raw.tmod (l.length : Int) < (l.length : Int) := Int.tmod_lt_of_pos _ (by omega)
  exact ⟨(raw.tmod (l.length : Int)).toNat, by omega, by omega⟩
/-! ### The law's answers -/
theorem law8_e (h : L8 l kn i) (he : (((!decide ((countP (l ++ [lX l i]) kn).2 = 0)) || (!decide ((countP ((l ++ [lX l i]) ++ [lY]) kn).2 = 0))) || (!decide ((countP (l.take i ++ l.drop (i + 1)) kn).2 = 0))) = true) :
    (decide ((countP (l ++ [lX l i]) kn).2 = 9) || decide ((countP ((l ++ [lX l i]) ++ [lY]) kn).2 = 9)) = true := by
  rw [h.ed] at he
  rcases h.eb with h1 | h1 <;> rcases h.ec with h2 | h2 <;> rw [h1, h2] at he ⊢ <;> first | rfl | exact absurd he (by decide)
theorem take_app {a b c : List Ru} (e : c = a ++ b) : c.take a.length = a := by subst e; simp
theorem len_av (l : List Ru) (h : l.length ≤ 12) : AV.tv (.int .i64 (wr ((((l.map celR).length : Nat) : Int) + 1))) = .tv (.int .i64 ((l.length + 1 : Nat) : Int)) := by
  rw [List.length_map]; exact succ_av _ (by omega)
theorem app_law {a b c : List Ru} {r : Ru} (e : c = a ++ [r]) : ((c.length : Int) = ((a.length + 1 : Nat) : Int)) ∧ all2 sameR Ru.z (c.take a.length) a = true := by
  refine ⟨by subst e; simp, ?_⟩
  rw [take_app e]; exact all2_refl sameR_refl a
theorem law8_late (h : L8 l kn i) (hk : kn < (l.getD i Ru.z).kn) (hb : (countP (l ++ [lX l i]) kn).2 = 0) :
    ((headB && decide ((((countP (l ++ [lX l i]) kn).1.length : Nat) : Int) = (((countP l kn).1.length + 1 : Nat) : Int))) && all2 sameR Ru.z ((countP (l ++ [lX l i]) kn).1.take (countP l kn).1.length) (countP l kn).1) = true := by
  obtain ⟨h1, h2⟩ := app_law (b := []) (h.late hk hb)
  rw [head_true, h2, decide_eq_true h1]; rfl
theorem law8_final (h : L8 l kn i) (hk : (l.getD i Ru.z).kn ≤ kn) (hf : (l.getD i Ru.z).fin = true) (hb : (countP (l ++ [lX l i]) kn).2 = 0) :
    (headB && all2 sameR Ru.z (countP (l ++ [lX l i]) kn).1 (countP l kn).1) = true := by
  rw [head_true, h.final hk hf hb, all2_refl sameR_refl]; rfl
theorem law8_len (h : L8 l kn i) (hf : (l.getD i Ru.z).fin = false) (hb : (countP (l ++ [lX l i]) kn).2 = 0) (hc : (countP ((l ++ [lX l i]) ++ [lY]) kn).2 = 0) :
    ((((countP (l ++ [lX l i]) kn).1.length : Nat) : Int) = (((countP (l.take i ++ l.drop (i + 1)) kn).1.length + 1 : Nat) : Int)) ∧ ((((countP ((l ++ [lX l i]) ++ [lY]) kn).1.length : Nat) : Int) = (((countP l kn).1.length + 1 : Nat) : Int)) :=
  ⟨(app_law (b := []) (h.lifted hf hb)).1, (app_law (b := []) (h.back hb hc)).1⟩
theorem law8_last (h : L8 l kn i) (hf : (l.getD i Ru.z).fin = false) (hb : (countP (l ++ [lX l i]) kn).2 = 0) (hc : (countP ((l ++ [lX l i]) ++ [lY]) kn).2 = 0) :
    ((headB && all2 sameR Ru.z ((countP (l ++ [lX l i]) kn).1.take (countP (l.take i ++ l.drop (i + 1)) kn).1.length) (countP (l.take i ++ l.drop (i + 1)) kn).1) && all2 sameR Ru.z ((countP ((l ++ [lX l i]) ++ [lY]) kn).1.take (countP l kn).1.length) (countP l kn).1) = true := by
  rw [head_true, (app_law (b := []) (h.lifted hf hb)).2, (app_law (b := []) (h.back hb hc)).2]; rfl
theorem L8.lens (h : L8 l kn i) : (countP l kn).1.length ≤ 12 ∧ (countP (l.take i ++ l.drop (i + 1)) kn).1.length ≤ 12 := by
  have h0 := h.len
  have h1 : (countP l kn).1.length ≤ l.length := by rw [count_ok h.ok]; exact (ot_sub l).length_le
  have h2 : (countP (l.take i ++ l.drop (i + 1)) kn).1.length ≤ (l.take i ++ l.drop (i + 1)).length := by rw [count_ok h.okd]; exact (ot_sub _).length_le
  have h3 := h.subd.length_le
  omega
end Go.Proofs.Ythmimpiegnnmdaa
