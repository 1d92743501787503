/- Rulings that are not known yet, and further ones. -/
import Derived.Test.YthmimpiegnnmdaaLaw3
namespace Go.Proofs.Ythmimpiegnnmdaa
open Go.RowKit
set_option linter.unusedSimpArgs false
set_option linter.unusedVariables false

def knownL (l : List Ru) (M : Int) : List Ru := l.filter fun r => decide (r.kn ≤ M)
theorem one_filter (l : List Ru) {n M : Int} (h : n ≤ M) (q : ByteArray) : oneF (knownL l M) n q = oneF l n q := by
  unfold oneF finalR knownL
  rw [List.any_filter]
  congr 1
  funext r
  unfold finP
  by_cases hk : r.kn ≤ n
  · rw [decide_eq_true (p := r.kn ≤ M) (by omega), Bool.true_and]
  · simp [hk]
theorem one_app (l : List Ru) (r : Ru) (n : Int) (h : r.fin = false) (q : ByteArray) : oneF (l ++ [r]) n q = oneF l n q := by
  unfold oneF finalR
  rw [List.any_append]
  simp [finP, h]
theorem law6_b {l : List Ru} {n M : Int} (e : (countP l n).2 = 0) (h : n ≤ M) : countP (knownL l M) n = countP l n := by
  have ho := count_was e
  rw [count_ok ho, count_ok (l := knownL l M) (ho.sub List.filter_sublist), ot_ext _ (one_filter l h), knownL, (ot_filter (m := nonS) (f := oneF l n) (kn := n) (fun r => decide (r.kn ≤ M)) l (fun r _ hp => by simp only [decide_eq_false_iff_not] at hp; omega)).1]
theorem known_yes {l : List Ru} {i : Nat} {M : Int} (h : i < l.length) (hp : decide ((l.getD i Ru.z).kn ≤ M) = true) : knownL (l.take (i + 1)) M = knownL (l.take i) M ++ [l.getD i Ru.z] := by
  have hp' : (l.getD i Ru.z).kn ≤ M := by simpa using hp
  unfold knownL
  rw [getD_of_lt h] at hp' ⊢
  rw [List.take_succ_eq_append_getElem h, List.filter_append]
  simp [hp']
theorem known_no {l : List Ru} {i : Nat} {M : Int} (h : i < l.length) (hp : decide ((l.getD i Ru.z).kn ≤ M) = false) : knownL (l.take (i + 1)) M = knownL (l.take i) M := by
  have hp' : ¬ (l.getD i Ru.z).kn ≤ M := by simpa using hp
  unfold knownL
  rw [getD_of_lt h] at hp'
  rw [List.take_succ_eq_append_getElem h, List.filter_append]
  simp [hp']
theorem known_len (l : List Ru) (i : Nat) (M : Int) : (knownL (l.take i) M).length ≤ i :=
  Nat.le_trans (List.length_filter_le _ _) (by rw [List.length_take]; omega)
theorem mn_mx (a b : Int) : mn a b ≤ mx a b := by unfold mn mx; split <;> split <;> omega
theorem law6_s {l : List Ru} {n : Int} (e : (countP l n).2 = 0) : List.Sublist (countP l n).1 l := by
  rw [count_ok (count_was e)]; exact ot_sub l
theorem law6_k {l : List Ru} {n : Int} (e : (countP l n).2 = 0) {i : Nat} (h : i < (countP l n).1.length) : ((countP l n).1.getD i Ru.z).kn ≤ n := by
  have hm := getD_mem (d := Ru.z) h
  have e2 := count_ok (count_was e)
  have : ∀ x ∈ (countP l n).1, x.kn ≤ n := by rw [e2]; exact ot_known l
  exact this _ hm
theorem law6_c {l : List Ru} {n : Int} {r : Ru} (e : (countP l n).2 = 0) (g : (countP (l ++ [r]) n).2 = 0) (h6 : r.kd ≠ 6) (hf : r.fin = false) : (countP (l ++ [r]) n).1 = (countP l n).1 ++ otS (oneF l n) n nonS [r] := by
  rw [count_ok (count_was e), count_ok (count_was g), ot_ext _ (one_app l r n hf), ot_app]
  show _ ++ _ = _ ++ _
  congr 1
  refine (ot_congr l fun x _ => ?_).1
  simp [lfS, h6]
theorem ot_one_len (f : ByteArray → Bool) (n : Int) (m : ByteArray → Bool) (r : Ru) : (otS f n m [r]).length ≤ 1 := by
  rw [ot_one]; cases skS f n (m r.id) r <;> simp
theorem law6_fin {l : List Ru} {n : Int} {r : Ru} (e : (countP l n).2 = 0) (g : (countP (l ++ [r]) n).2 = 0) (h6 : r.kd ≠ 6) (hf : r.fin = false) :
    (((headB && decide ((((countP l n).1.length : Nat) : Int) ≤ (((countP (l ++ [r]) n).1.length : Nat) : Int))) && decide ((((countP (l ++ [r]) n).1.length : Nat) : Int) ≤ (((countP l n).1.length : Nat) : Int) + 1)) && all2 sameR Ru.z ((countP (l ++ [r]) n).1.take (countP l n).1.length) (countP l n).1) = true := by
  have h1 := law6_c e g h6 hf
  have h2 := ot_one_len (oneF l n) n nonS r
  rw [h1, List.take_left', all2_refl sameR_refl, head_true]
  · simp only [List.length_append, Bool.true_and, Bool.and_true, Bool.and_eq_true, decide_eq_true_eq]; omega
  · rfl
/-! ### The list's order -/
theorem sub_hit {a l : List Ru} {i k : Nat} (h : List.Sublist (a.drop i) (l.drop k)) : List.Sublist (a.drop (i + 1)) (l.drop (k + 1)) := by
  have := h.tail
  simpa [List.tail_drop] using this
theorem sub_miss {a l : List Ru} {i k : Nat} (h : List.Sublist (a.drop i) (l.drop k)) (hi : i < a.length) (hk : k < l.length) (hs : sameR (l.getD k Ru.z) (a.getD i Ru.z) = false) : List.Sublist (a.drop i) (l.drop (k + 1)) := by
  rw [drop_get l k Ru.z hk] at h
  rw [drop_get a i Ru.z hi] at h ⊢
  generalize l.getD k Ru.z = x at h hs
  generalize a.getD i Ru.z = y at h hs ⊢
  rcases List.sublist_cons_iff.1 h with h | ⟨r, e, _⟩
  · exact h
  · cases e; rw [sameR_refl] at hs; cases hs
theorem sub_end {a l : List Ru} {i k : Nat} (h : List.Sublist (a.drop i) (l.drop k)) (hi : i < a.length) : k < l.length := by
  by_cases hk : k < l.length
  · exact hk
  · rw [List.drop_of_length_le (l := l) (by omega)] at h
    have := h.length_le
    rw [List.length_drop, List.length_nil] at this; omega
end Go.Proofs.Ythmimpiegnnmdaa
