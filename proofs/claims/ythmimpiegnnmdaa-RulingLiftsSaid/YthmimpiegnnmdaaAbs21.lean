/- The same for an order that is drawn; the frame of pure calls; what is told less. -/
import Derived.Test.YthmimpiegnnmdaaAbs20
namespace Go.Proofs.Ythmimpiegnnmdaa
open Go.RowKit
set_option linter.unusedSimpArgs false
set_option linter.unusedVariables false

def clrB (xs : List Id) (H : Hp) : Bool := xs.all fun x => (hget H x).isNone
def notInB (x : Id) (xs : List Id) : Bool := xs.all fun y => !decide (y = x)
def clrEB (p : Id) (n0 m : Nat) (id : Id) (H : Hp) : List (Nat × Eff) → Bool
  | [] => true
  | (j, e) :: r => (m.testBit j || clrB (wrs e ((n0 + j) :: p)) H) && notInB id (wrs e ((n0 + j) :: p)) && clrEB p n0 m id H r
def clrUB (m : Nat) (xs : List Id) : List (Nat × Hp) → Bool
  | [] => true
  | (j, H) :: r => (m.testBit j || clrB xs H) && clrUB m xs r
def oldInB (e : Eff) (H : Hp) : Bool := match e with
  | .upd i _ => (hget H i).isSome
  | .repl i _ => (hget H i).isSome
  | _ => true
def XE.eff : XE → Option Eff
  | XE.e y => some y
  | XE.h _ => none
  | .f i o => some (.upd i o)
def evDB (P : Program) (p : Id) (n0 : Nat) (H0 : Hp) : List SOp → List Ora → List Nat → List Nat → Nat → Gm → List (Nat × Eff) → List (Nat × Hp) → Option (List Prop × Gm × Hp × Nat)
  | [], _, _, _, k, C, E, _ => some ([], C, hovA p n0 H0 E, n0 + k)
  | _ :: _, _, [], _, _, _, _, _ => none
  | ⟨d, op, g⟩ :: os, ors, m :: ms, u, k, C, E, U =>
    match clrEB p n0 m ((n0 + k) :: p) (bif usesH op then hovL p n0 m H0 E else []) E with
    | false => none
    | true => match opB P C (bif usesH op then hovL p n0 m H0 E else []) ((n0 + k) :: p) op g u (ors.headD .std) with
      | none => none
      | some (u', ns, x, xe) => match dstOk d u' with
        | false => none
        | true => match xe.eff with
          | none => none
          | some e => match oldInB e (bif usesH op then hovL p n0 m H0 E else []) && clrUB m (wrs e ((n0 + k) :: p)) U with
            | false => none
            | true => match evDB P p n0 H0 os ors.tail ms u' (k + 1) (gsetB d x C) (eadd k e E) (bif usesH op then U ++ [(k, hovL p n0 m H0 E)] else U) with
              | some (ns2, C', H', n') => some (ns ++ ns2, C', H', n')
              | none => none
def regDB (nt : Nat) (P : Program) (p : Id) (ops : Array Oper) (ms : List Nat) (ors : List Ora) (l : List Nat) (T : Tm) (H : Hp) (n : Nat) : Option (List Prop × Tm × Hp × Nat) := match slim nt ops with
  | none => none
  | some os => match drawOk ops os ms && P.follows .mixedOrders with
    | false => none
    | true => match evDB P p n H os ors ms [] 0 (upB T) [] [] with
      | some (ns, C, H', n') => some (ns, gkeep l C, H', n')
      | none => none
theorem clrB_ok {xs : List Id} {H : Hp} (h : clrB xs H = true) : clr xs H := by
  induction xs with
  | nil => trivial
  | cons x r ih =>
    simp only [clrB, List.all_cons, Bool.and_eq_true, Option.isNone_iff_eq_none] at h
    exact ⟨h.1, ih h.2⟩
theorem notInB_ok {x : Id} {xs : List Id} (h : notInB x xs = true) : notIn x xs := by
  induction xs with
  | nil => trivial
  | cons y r ih =>
    simp only [notInB, List.all_cons, Bool.and_eq_true, Bool.not_eq_true', decide_eq_false_iff_not] at h
    exact ⟨eq_false h.1, ih h.2⟩
theorem clrEB_ok {p : Id} {n0 m : Nat} {id : Id} {H : Hp} {E : List (Nat × Eff)} (h : clrEB p n0 m id H E = true) : clrE p n0 m id H E := by
  induction E with
  | nil => trivial
  | cons x r ih =>
    obtain ⟨j, e⟩ := x
    simp only [clrEB, Bool.and_eq_true] at h
    refine ⟨?_, notInB_ok h.1.2, ih h.2⟩
    have h1 := h.1.1
    cases hm : m.testBit j with
    | true => trivial
    | false => rw [hm] at h1; exact clrB_ok (by simpa using h1)
theorem clrUB_ok {m : Nat} {xs : List Id} {U : List (Nat × Hp)} (h : clrUB m xs U = true) : clrU m xs U := by
  induction U with
  | nil => trivial
  | cons x r ih =>
    obtain ⟨j, H⟩ := x
    simp only [clrUB, Bool.and_eq_true] at h
    refine ⟨?_, ih h.2⟩
    have h1 := h.1
    cases hm : m.testBit j with
    | true => trivial
    | false => rw [hm] at h1; exact clrB_ok (by simpa using h1)
theorem oldInB_ok {e : Eff} {H : Hp} (h : oldInB e H = true) : oldIn e H := by
  cases e <;> first | trivial | exact h
theorem stepD {P : Program} {H : Hp} {id : Id} {o : Ora} {K : AV → Eff → Prop} : ∀ {r : Res} {ns : List Prop} {v : AV} {x : XE} {e : Eff}, stepB P H id o r = some (ns, v, x) → x.eff = some e → conj ns → K v e → evdR P H K r := by
  intro r
  induction r with
  | need q r ih =>
    intro ns v x e h hx hc hk
    simp only [stepB] at h
    split at h
    · rename_i ns' v' x' e'
      cases h
      exact ⟨hc.1, ih e' hx hc.2 hk⟩
    · cases h
  | val v0 e0 =>
    intro ns v x e h hx hc hk
    cases o <;> simp only [stepB, Option.some.injEq, Prod.mk.injEq, reduceCtorEq] at h
    · obtain ⟨rfl, rfl, rfl⟩ := h; cases hx; exact hk
    · obtain ⟨rfl, rfl, rfl⟩ := h; cases hx
      have e1 := hc.1; subst e1; exact hk
    · obtain ⟨rfl, rfl, rfl⟩ := h; cases hx
      have e1 := hc.1; have e2 := hc.2.1; subst e1 e2
      simp only [effO_obj] at hk; exact hk
  | call f args =>
    intro ns v x e h hx hc hk
    cases o <;> simp only [stepB, Option.some.injEq, Prod.mk.injEq, reduceCtorEq] at h
    · obtain ⟨rfl, rfl, rfl⟩ := h; cases hx; exact .inl ⟨_, hc.1, hk⟩
    · obtain ⟨rfl, rfl, rfl⟩ := h; cases hx
    · obtain ⟨rfl, rfl, rfl⟩ := h; cases hx
    · obtain ⟨rfl, rfl, rfl⟩ := h; cases hx
      obtain ⟨h1, h2, _⟩ := hc
      exact .inr ⟨_, _, _, _, h1, h2, hk⟩
  | yld i args =>
    intro ns v x e h hx hc hk
    cases o <;> simp only [stepB, Option.some.injEq, Prod.mk.injEq, reduceCtorEq] at h
    obtain ⟨rfl, rfl, rfl⟩ := h; cases hx
  | fail => intro ns v x e h; simp [stepB] at h
theorem evDB_evd {P : Program} {p : Id} {n0 : Nat} {H0 : Hp} {K : Tm → Hp → Nat → Prop} : ∀ {os : List SOp} {ors : List Ora} {ms u : List Nat} {k : Nat} {C C' : Gm} {T : Tm} {H' : Hp} {E : List (Nat × Eff)} {U U' : List (Nat × Hp)} {n' : Nat} {ns : List Prop}, RelB u C T → (∀ x ∈ U, x ∈ U') →
    evDB P p n0 H0 os ors ms u k C E U' = some (ns, C', H', n') → conj ns → (∀ u' T', RelB u' C' T' → K T' H' n') → evd P p n0 H0 os ms k T E U K := by
  intro os
  induction os with
  | nil =>
    intro ors ms u k C C' T H' E U U' n' ns hr _ h _ hk
    simp only [evDB, Option.some.injEq, Prod.mk.injEq] at h
    obtain ⟨_, rfl, rfl, rfl⟩ := h
    exact hk u T hr
  | cons so os ih =>
    intro ors ms u k C C' T H' E U U' n' ns hr hU h hc hk
    obtain ⟨d, op, g⟩ := so
    cases ms with
    | nil => simp [evDB] at h
    | cons m ms =>
      simp only [evDB] at h
      split at h
      · cases h
      · rename_i hce
        split at h
        · cases h
        · rename_i u' ns1 x xe ho
          split at h
          · cases h
          · rename_i hd
            split at h
            · cases h
            · rename_i e hxe
              split at h
              · cases h
              · rename_i hcu
                split at h
                · rename_i ns2 C2 H2 n2 hrest
                  simp only [Option.some.injEq, Prod.mk.injEq] at h
                  obtain ⟨rfl, rfl, rfl, rfl⟩ := h
                  obtain ⟨hc1, hc2⟩ := conj_app.1 hc
                  simp only [Bool.and_eq_true] at hcu
                  have hce := clrEB_ok hce
                  have hold := oldInB_ok hcu.1
                  have hcl := clrU_sub hU (clrUB_ok hcu.2)
                  have hUc : ∀ (c : Bool) (x : Nat × Hp), ∀ y ∈ (bif c then U ++ [x] else U), y ∈ (bif c then U' ++ [x] else U') := by
                    intro c x y hy
                    cases c
                    · exact hU y hy
                    · simp at hy ⊢
                      exact hy.imp (hU y) id
                  have hUs : ∀ (c : Bool) (x : Nat × Hp), ∀ y ∈ U, y ∈ (bif c then U' ++ [x] else U') := by
                    intro c x y hy
                    cases c
                    · exact hU y hy
                    · simp; exact .inl (hU y hy)
                  have hop := opB_sound ho
                  have hrun := hop.run T hr hc1
                  cases g with
                  | none =>
                    obtain ⟨v, rfl, o', ns', hs1, hs2⟩ := hrun
                    simp only [evd]
                    exact ⟨hce, stepD hs1 hxe hs2 ⟨hold, hcl, ih (hr.setv hop.le hd v) (hUc _ _) hrest hc2 hk⟩⟩
                  | some tb =>
                    obtain ⟨t, b⟩ := tb
                    obtain ⟨v, π, rfl, rfl, hπ, hrun⟩ := hrun
                    cases hxe
                    simp only [evd]
                    rcases hrun with ⟨hh, ht, o', ns', hs1, hs2⟩ | ⟨hn, ht⟩
                    · rw [ht]
                      refine ⟨fun _ => ⟨hce, stepD hs1 rfl hs2 ⟨hold, hcl, ih (hr.setc hop.le hd hπ v v ⟨fun _ => rfl, fun hn => absurd hh hn⟩) (hUc _ _) hrest hc2 hk⟩⟩, fun e => by cases b <;> cases e⟩
                    · have hsk : evd P p n0 H0 os ms (k + 1) (tset d (.tup []) T) E U K := ih (hr.setc hop.le hd hπ v (.tup []) ⟨fun hh => absurd hh hn, fun _ => rfl⟩) (hUs _ _) hrest hc2 hk
                      rcases ht with ht | ht
                      · rw [ht]; exact ⟨fun e => (by cases b <;> cases e), fun _ => hsk⟩
                      · rw [ht]; exact hsk
                · cases h
theorem evDB_keep {P : Program} {p : Id} {n0 nt : Nat} {H0 : Hp} (hnt : nt ≤ 1000000) : ∀ {os : List SOp} {ors : List Ora} {ms u : List Nat} {k : Nat} {C C' : Gm} {H' : Hp} {E : List (Nat × Eff)} {U : List (Nat × Hp)} {n' : Nat} {ns : List Prop}, (∀ o ∈ os, ∀ d, o.dst = some d → d < nt) →
    evDB P p n0 H0 os ors ms u k C E U = some (ns, C', H', n') → gvGet C' 1000000 = gvGet C 1000000 := by
  intro os
  induction os with
  | nil =>
    intro ors ms u k C C' H' E U n' ns _ h
    simp only [evDB, Option.some.injEq, Prod.mk.injEq] at h
    obtain ⟨_, rfl, _⟩ := h; rfl
  | cons so os ih =>
    intro ors ms u k C C' H' E U n' ns hd h
    obtain ⟨d, op, g⟩ := so
    cases ms with
    | nil => simp [evDB] at h
    | cons m ms =>
      simp only [evDB] at h
      split at h
      · cases h
      · split at h
        · cases h
        · split at h
          · cases h
          · split at h
            · cases h
            · split at h
              · cases h
              · split at h
                · rename_i hrest
                  cases h
                  rw [ih (fun o ho => hd o (by simp [ho])) hrest, gvGet_set, if_neg]
                  intro e
                  have := hd ⟨d, op, g⟩ (by simp) 1000000 e
                  omega
                · cases h
theorem regDB_evd {E : En} {Q : Exit → St → Prop} {id : Nat} {ops : Array Oper} {T : Tm} {H : Hp} {p : Id} {n : Nat} (ms l : List Nat) (ors : List Ora) (ns : List Prop) (T1 : Tm) (H1 : Hp) (n1 : Nat) (hnk : E.nt ≤ 1000000)
    (h : regDB E.nt E.P p ops ms ors l T H n = some (ns, T1, H1, n1)) (hc : conj ns) (hk : ∀ T', Gh ⟨T', H1, p, n1⟩ ⟨T1, H1, p, n1⟩ → Q .normal ⟨T', H1, p, n1⟩) : AT E (.region id ops true) Q ⟨T, H, p, n⟩ := by
  unfold regDB at h
  split at h
  · cases h
  · rename_i os hsl
    split at h
    · cases h
    · rename_i hok
      simp only [Bool.and_eq_true] at hok
      split at h
      · rename_i ns' C H' n' hev
        cases h
        have hkeep := evDB_keep hnk (slims_dst (slim_all hsl).1 (slim_all hsl).2) hev
        exact at_draw ms hok.2 hsl hok.1 (evDB_evd (RelB.up T) (fun _ h => h) hev hc (fun u' T' hr => hk T' (Gh.gkeep hr (fun π a => by rw [hkeep, gvGet_upB]; exact fun e => by cases e) l H1 p n1)))
      · cases h
theorem at_D {E : En} {Q : Exit → St → Prop} {id : Nat} {ops : Array Oper} {d : Code} {T : Tm} {H : Hp} {p : Id} {n : Nat} (ms l : List Nat) (ors : List Ora) (ns : List Prop) (T1 : Tm) (H1 : Hp) (n1 : Nat)
    (h : regDB E.nt E.P p ops ms ors l T H n = some (ns, T1, H1, n1)) (hc : conj ns) (hk : AT E d Q ⟨T1, H1, p, n1⟩) : AT E (.seq (.region id ops true) d) Q ⟨T, H, p, n⟩ :=
  at_fact (E.nt ≤ 1000000) (fun _ _ _ _ _ _ _ _ ⟨_, _, hs⟩ => hs.nk) fun hnk => at_seq (regDB_evd ms l ors ns T1 H1 n1 hnk h hc fun _ hg => at_pre hg hk)
theorem at_Dl {E : En} {Q : Exit → St → Prop} {id : Nat} {ops : Array Oper} {T : Tm} {H : Hp} {p : Id} {n : Nat} (ms l : List Nat) (ors : List Ora) (ns : List Prop) (T1 : Tm) (H1 : Hp) (n1 : Nat)
    (h : regDB E.nt E.P p ops ms ors l T H n = some (ns, T1, H1, n1)) (hc : conj ns) (hk : Q .normal ⟨T1, H1, p, n1⟩) : AT E (.region id ops true) Q ⟨T, H, p, n⟩ :=
  at_fact (E.nt ≤ 1000000) (fun _ _ _ _ _ _ _ _ ⟨_, _, hs⟩ => hs.nk) fun hnk =>
    at_post (Q' := fun e s => e = .normal ∧ Gh s ⟨T1, H1, p, n1⟩) (regDB_evd ms l ors ns T1 H1 n1 hnk h hc fun _ hg => ⟨rfl, hg⟩) (by rintro e s ⟨rfl, hg⟩; exact ⟨_, hg, hk⟩)

/-! ### Told less -/
def Le (v v' : AV) : Prop := ∀ σ ι u, VR σ ι v u → VR σ ι v' u
theorem Le.refl (v : AV) : Le v v := fun _ _ _ h => h
theorem Le.of_eq {v v' : AV} (h : v = v') : Le v v' := h ▸ Le.refl v
theorem Le.trans {a b c : AV} (h : Le a b) (k : Le b c) : Le a c := fun σ ι u x => k σ ι u (h σ ι u x)
theorem Le.nils (sz : Nat) : Le (.tv .nils) (.tv (.sli sz [])) := by
  intro σ ι u h
  cases h with
  | tv h => cases h; exact .tv (.sli (σ := σ) sz [] none 0 (fun _ _ => undef) (by simp) (by simp) (fun _ => rfl) (fun r hr => by simp at hr) (fun i j r c h => by simp at h) (fun a i j r c _ h => by simp at h))
def TLe (t t' : TV) : Prop := ∀ σ u, TR σ t u → TR σ t' u
theorem TLe.refl (t : TV) : TLe t t := fun _ _ h => h
theorem TLe.nils (sz : Nat) : TLe .nils (.sli sz []) := by
  intro σ u h
  cases h
  exact .sli (σ := σ) sz [] none 0 (fun _ _ => undef) (by simp) (by simp) (fun _ => rfl) (fun r hr => by simp at hr) (fun i j r c h => by simp at h) (fun a i j r c _ h => by simp at h)
inductive TLs : List TV → List TV → Prop
  | nil : TLs [] []
  | cons {t t' : TV} {r r' : List TV} (h : TLe t t') (hs : TLs r r') : TLs (t :: r) (t' :: r')
theorem TLs.refl : ∀ l : List TV, TLs l l
  | [] => .nil
  | t :: r => .cons (TLe.refl t) (TLs.refl r)
theorem TLs.length {l l' : List TV} (h : TLs l l') : l'.length = l.length := by
  induction h with
  | nil => rfl
  | cons _ _ ih => simp [ih]
theorem TLs.get {l l' : List TV} (h : TLs l l') : ∀ {j : Nat} {c : TV}, l'[j]? = some c → ∃ c0, l[j]? = some c0 ∧ TLe c0 c := by
  induction h with
  | nil => intro j c h; simp at h
  | cons hv _ ih =>
    intro j c h
    cases j with
    | zero => simp at h; subst h; exact ⟨_, rfl, hv⟩
    | succ j => simp at h; obtain ⟨c0, g1, g2⟩ := ih h; exact ⟨c0, by simpa using g1, g2⟩
inductive TRs : List (List TV) → List (List TV) → Prop
  | nil : TRs [] []
  | cons {t t' : List TV} {r r' : List (List TV)} (h : TLs t t') (hs : TRs r r') : TRs (t :: r) (t' :: r')
theorem TRs.length {l l' : List (List TV)} (h : TRs l l') : l'.length = l.length := by
  induction h with
  | nil => rfl
  | cons _ _ ih => simp [ih]
theorem TRs.get {l l' : List (List TV)} (h : TRs l l') : ∀ {j : Nat} {c : List TV}, l'[j]? = some c → ∃ c0, l[j]? = some c0 ∧ TLs c0 c := by
  induction h with
  | nil => intro j c h; simp at h
  | cons hv _ ih =>
    intro j c h
    cases j with
    | zero => simp at h; subst h; exact ⟨_, rfl, hv⟩
    | succ j => simp at h; obtain ⟨c0, g1, g2⟩ := ih h; exact ⟨c0, by simpa using g1, g2⟩
theorem Le.rows {sz : Nat} {rows rows' : List (List TV)} (h : TRs rows rows') : Le (.tv (.sli sz rows)) (.tv (.sli sz rows')) := by
  intro σ ι u hu
  cases hu with
  | tv hu =>
  cases hu with
  | sli _ _ A cap us hc hm hA hz hv hs =>
  refine .tv ?_
  rw [← h.length]
  refine .sli _ _ A cap us (by rw [h.length]; exact hc) (by rw [h.length]; exact hm) (fun e => ?_) (fun r hr => ?_) (fun i j r c h1 h2 => ?_) (fun a i j r c e h1 h2 => ?_)
  · have := hA e
    subst this
    cases h; rfl
  · obtain ⟨i, hi⟩ := List.mem_iff_getElem?.1 hr
    obtain ⟨r0, g1, g2⟩ := h.get hi
    rw [g2.length]; exact hz r0 (List.mem_of_getElem? g1)
  · obtain ⟨r0, g1, g2⟩ := h.get h1
    obtain ⟨c0, g3, g4⟩ := g2.get h2
    exact g4 _ _ (hv i j r0 c0 g1 g3)
  · obtain ⟨r0, g1, g2⟩ := h.get h1
    obtain ⟨c0, g3, g4⟩ := g2.get h2
    exact hs a i j r0 c0 e g1 g3
inductive LeL : List AV → List AV → Prop
  | nil : LeL [] []
  | cons {v v' : AV} {r r' : List AV} (h : Le v v') (hs : LeL r r') : LeL (v :: r) (v' :: r')
theorem LeL.refl : ∀ l : List AV, LeL l l
  | [] => .nil
  | v :: r => .cons (Le.refl v) (LeL.refl r)
theorem LeL.vrs {l l' : List AV} (h : LeL l l') : ∀ {σ : Facts} {ι : Where} {us : List Value}, VRs σ ι l us → VRs σ ι l' us := by
  induction h with
  | nil => intro σ ι us h; exact h
  | cons hv _ ih =>
    intro σ ι us h
    obtain ⟨u, us', rfl, h1, h2⟩ := h.cons_inv
    exact VRs.cons (hv _ _ _ h1) (ih h2)
theorem LeL.length {l l' : List AV} (h : LeL l l') : l.length = l'.length := by
  induction h with
  | nil => rfl
  | cons _ _ ih => simp [ih]
theorem Le.agg {l l' : List AV} (h : LeL l l') : Le (.agg l) (.agg l') := by
  intro σ ι u hu
  cases hu with
  | agg _ us hl hv =>
    have := h.vrs (us := us) ⟨hl, hv⟩
    exact .agg _ _ this.1 this.2
theorem Le.tup {l l' : List AV} (h : LeL l l') : Le (.tup l) (.tup l') := by
  intro σ ι u hu
  cases hu with
  | tup _ us hl hv =>
    have := h.vrs (us := us) ⟨hl, hv⟩
    exact .tup _ _ this.1 this.2
theorem PureCall.le {P : Program} {f : FuncId} {args args' : List AV} {v v' : AV} (h : PureCall P f args' v) (ha : LeL args args') (hv : Le v v') : PureCall P f args v' := by
  intro H q B w0 σ ι w us hw hq hus
  refine ⟨trivial, fun cs hr => ?_⟩
  obtain ⟨e, w', fr, ⟨v1, u, H', σ', ι', he, ⟨e1, e2⟩, h3, h4⟩, x⟩ := (h H q B w0 σ ι w us hw hq (ha.vrs hus)).2 cs hr
  subst e1
  exact ⟨e, w', fr, ⟨v', u, H', σ', ι', he, ⟨rfl, e2⟩, hv _ _ _ h3, h4⟩, x⟩
theorem PureCall.arg {P : Program} {f : FuncId} {args args' : List AV} {v : AV} (h : PureCall P f args' v) (ha : LeL args args') : PureCall P f args v := h.le ha (Le.refl v)

/-! ### The frame: a pure call is walked with no block but its own -/
def Pure0 (P : Program) (f : FuncId) (args : List AV) (v : AV) : Prop := CallOK P f args [] [] fun v' _ => v' = v
theorem VRs.cl {σ : Facts} {ι ι' : Where} {vs : List AV} {us : List Value} (h : VRs σ ι vs us) (hc : vs.all AV.cl = true) : VRs σ ι' vs us :=
  ⟨h.1, fun j c u h1 h2 => (h.2 j c u h1 h2).cl (List.all_eq_true.1 hc c (List.mem_of_getElem? h1))⟩
theorem pure_frame {P : Program} {f : FuncId} {args : List AV} {v : AV} (ha : args.all AV.cl = true) (hv : v.cl = true) (h : Pure0 P f args v) : PureCall P f args v := by
  intro H q B w0 σ ι w us hw hq hus
  refine ⟨trivial, fun cs hr => ?_⟩
  have hw0 : WR ⟨w.heap.size, σ⟩ w σ (fun _ => none) [] w := by
    refine ⟨Nat.le_refl _, ⟨rfl, rfl, rfl, Nat.le_refl _, fun k _ => rfl⟩, ?_, ?_, ?_, ?_, hw.sure, ?_, fun a v h => .inl h⟩
    · intro id o b n h; simp [hget] at h
    · intro id o h; simp [hget] at h
    · intro id o h; simp [hget] at h
    · intro id id' o o' b n n' h; simp [hget] at h
    · intro a v hs id o b n h; simp [hget] at h
  obtain ⟨e, w', fr, ⟨v1, u, H', σ', ι', he, e1, h3, h4, h5, h6, h7⟩, x⟩ := (h ⟨w.heap.size, σ⟩ w σ (fun _ => none) w us hw0 (fun _ _ => rfl) (hus.cl ha)).2 cs hr
  subst e1
  refine ⟨e, w', fr, ⟨v1, u, H, σ', ι, he, ⟨rfl, rfl⟩, h3.cl hv, ?_, h5, fun _ _ h => h, fun _ _ => rfl⟩, x⟩
  have hB : B.B ≤ w.heap.size := hw.size
  have hb : Below w.heap.size w w' := h4.below
  have old : ∀ k, k < w.heap.size → w'.heap[k]? = w.heap[k]? := hb.block
  refine ⟨hw.hB, hw.below.trans ⟨hb.os, hb.tape, hb.output, hb.size, fun k hk => old k (by omega)⟩, ?_, hw.ghost, hw.dom, hw.inj, h4.sure, ?_, ?_⟩
  · intro id o b n ho hi
    obtain ⟨g1, obj, g2, g3⟩ := hw.obj id o b n ho hi
    exact ⟨g1, obj, by rw [old b (hw.lt ho hi)]; exact g2, g3.mono h5 (fun _ _ h => h)⟩
  · intro a x hs id o b n ho hi hab
    rcases h4.newf a x hs with h | h
    · exact hw.stab a x h id o b n ho hi hab
    · have := hw.lt ho hi
      simp only at h
      omega
  · intro a x hs
    rcases h4.newf a x hs with h | h
    · exact hw.newf a x h
    · right
      simp only at h
      omega
/-- What a pure function's body must come to. -/
def pureQ0 (P : Program) (rs : List ResultVar) (v : AV) : Exit → St → Prop := fun e s =>
  (e = .normal ∨ e = .ret) ∧ leaveD (tget s.T 1000000) s.H fun H' => resK P s.T H' rs [] (fun vs => retV vs = v)
theorem pure_walk0 {P : Program} {f : FuncId} {fn : Func} {c : Code} {args : List AV} {v : AV} (rs : List ResultVar) (hf : P.funcs[f]? = some fn) (hb : fn.body = some c) (hn : args.length ≤ fn.ntmps ∧ fn.ntmps ≤ 1000000) (hrs : fn.results.toList = rs)
    (ha : args.all AV.cl = true) (hv : v.cl = true) (h : AT ⟨P, none, fn.ntmps⟩ c (pureQ0 P rs v) ⟨argT args 0, [], [], 0⟩) : PureCall P f args v := by
  subst hrs
  exact pure_frame ha hv (call_of_at hf hb hn h)
end Go.Proofs.Ythmimpiegnnmdaa
