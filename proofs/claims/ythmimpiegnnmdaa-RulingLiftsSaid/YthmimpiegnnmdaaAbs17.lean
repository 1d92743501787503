/- Small steps of a printed walk. -/
import Derived.Test.YthmimpiegnnmdaaAbs15
namespace Go.Proofs.Ythmimpiegnnmdaa
open Go.RowKit
set_option linter.unusedSimpArgs false
set_option linter.unusedVariables false

theorem callK_pure {P : Program} {f : FuncId} {args : List AV} {H : Hp} {q : Id} {K : AV → Hp → Prop} {v : AV} (h : PureCall P f args v) (hk : K v H) : callK P f args H q K :=
  ⟨args, H, .inl ⟨rfl, rfl⟩, _, h H q, fun _ _ ⟨e1, e2⟩ => by subst e1 e2; exact hk⟩
theorem callK_frz {P : Program} {f : FuncId} {args args' : List AV} {H H0 : Hp} {q : Id} {K : AV → Hp → Prop} {v : AV} (hf : frzs args H = some (args', H0)) (h : PureCall P f args' v) (hk : K v H0) : callK P f args H q K :=
  ⟨args', H0, .inr hf, _, h H0 q, fun _ _ ⟨e1, e2⟩ => by subst e1 e2; exact hk⟩
theorem callK_at {P : Program} {f : FuncId} {args : List AV} {H : Hp} {q : Id} {K : AV → Hp → Prop} {post : AV → Hp → Prop} (h : CallOK P f args H q post) (hk : ∀ v H', post v H' → K v H') : callK P f args H q K :=
  ⟨args, H, .inl ⟨rfl, rfl⟩, _, h, hk⟩
theorem cond_bool (c a b : Bool) : (bif c then AV.tv (.bool a) else AV.tv (.bool b)) = .tv (.bool (bif c then a else b)) := by cases c <;> rfl
theorem rowAt_map {α : Type} (f : α → List TV) (l : List α) (i : Int) (d : α) (h : 0 ≤ i ∧ i < (l.length : Int)) : rowAt (l.map f) i = f (l.getD i.toNat d) := by
  have hlt : i.toNat < l.length := by omega
  unfold rowAt
  simp [List.getD, hlt]
theorem clrU_sub {m : Nat} {xs : List Id} {U U' : List (Nat × Hp)} (hs : ∀ x ∈ U, x ∈ U') (h : clrU m xs U') : clrU m xs U := by
  have all : ∀ x ∈ U', (bif m.testBit x.1 then True else clr xs x.2) := by
    clear hs
    induction U' with
    | nil => intro x hx; simp at hx
    | cons y r ih =>
      intro x hx
      simp at hx
      rcases hx with rfl | hx
      · exact h.1
      · exact ih h.2 x hx
  induction U with
  | nil => trivial
  | cons y r ih => exact ⟨all _ (hs y (by simp)), ih fun x hx => hs x (by simp [hx])⟩
end Go.Proofs.Ythmimpiegnnmdaa
