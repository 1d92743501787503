/- Part M4 of the proof. -/
import Derived.Test.YtphmhelkojdlaaaDoorChecked
import Derived.Lib.Strings
import Derived.Lib.Slices
import Derived.Lib.Walk
import Derived.Lib.Bytealg
import Derived.Test.YtphmhelkojdlaaaDoorM3
namespace Go.Proofs.YtphmhelkojdlaaaDoor
open Go.RowKit
set_option linter.unusedSimpArgs false
set_option linter.unusedVariables false
def encK (k : IntKind) (n : Int) : List TV := [.int k n]
def bytesI (s : ByteArray) : List Int := s.data.toList.map fun b => (b.toNat : Int)
theorem chunk_one {α : Type} (f : α → TV) (l : List α) : chunk 1 l.length (l.map f) = l.map fun a => [f a] := by
 induction l with
 | nil => rfl
 | cons a r ih => simp only [List.map_cons, List.length_cons, chunk, List.take_succ_cons, List.take_zero, List.drop_succ_cons, List.drop_zero, ih]
theorem bytes_chunk (s : ByteArray) : (AV.tv (.sli 1 (chunk 1 s.size (s.data.toList.map fun b => TV.int .u8 (b.toNat : Int))))) = .tv (.sli 1 ((bytesI s).map (encK .u8))) := by
 have h : s.size = s.data.toList.length := by simp
 rw [h, chunk_one]
 simp only [bytesI, List.map_map]
 rfl
/-- A contract of the kit's, told. -/
theorem pure_of_calls {P : Program} {f : FuncId} {args : List AV} {us : List Value} {v : AV} {u : Value} (ha : ∀ σ ι us', VRs σ ι args us' → us' = us) (hv : ∀ σ ι, VR σ ι v u) (h : ∀ w, Calls P f us.toArray w fun e w' => e = .returned u ∧ w' = w) : PureCall P f args v := by
 intro H q B w0 σ ι w us' hw hq hus
 have := ha σ ι us' hus
 subst this
 have hc : CallsIn Fence.wide 0 P f us'.toArray w fun e w' => e = .returned u ∧ w' = w := callsIn_wide.2 (h w)
 refine ⟨hc.1, fun cs hr => ?_⟩
 obtain ⟨e, w', fr, ⟨rfl, rfl⟩, x⟩ := hc.2 cs hr
 exact ⟨_, _, fr, ⟨v, u, H, σ, ι, rfl, ⟨rfl, rfl⟩, hv σ ι, hw, fun _ _ h => h, fun _ _ h => h, fun _ _ => rfl⟩, x⟩
set_option maxHeartbeats 1000000 in
set_option maxRecDepth 100000 in
theorem run105 (s : ByteArray) (c : Int) (w : World) :
  Calls Tryd.prog 105 #[.string s, .int .u8 c] w fun e w' => e = .returned (.int .i64 (Lib.indexByte s.data.toList c.toNat.toUInt8)) ∧ w' = w := by
 go_enter Tryd.func105, Tryd.ntmps105
 go_wp2
 rw [run_callFunc_extern Tryd.func111 (by kernel_rfl) (by kernel_rfl) (by kernel_rfl) (e := Extern.BytealgIndexByte.indexByte) (by kernel_rfl), Lib.run_indexByteString]
 simp only [Result.andThen]
 rw [Oper.upon_value]
 go_wp2
 go_ret
 exact ⟨rfl, rfl⟩
def idxB (s : ByteArray) (c : Int) : Int := Lib.indexByte s.data.toList c.toNat.toUInt8
theorem c105 (s : ByteArray) (c : Int) : PureCall Tryd.prog 105 [.tv (.str s), .tv (.int .u8 c)] (.i (idxB s c)) := by
 refine pure_of_calls (us := [.string s, .int .u8 c]) (u := .int .i64 (idxB s c)) (fun σ ι us' h => ?_) (fun σ ι => .tv (.int _ _)) (fun w => run105 s c w)
 obtain ⟨u1, r1, rfl, h1, h2⟩ := h.cons_inv
 obtain ⟨u2, r2, rfl, h3, h4⟩ := h2.cons_inv
 have := h4.nil_inv
 subst this
 cases h1 with
 | tv h1 => cases h3 with
  | tv h3 => cases h1; cases h3; rfl
end Go.Proofs.YtphmhelkojdlaaaDoor
namespace Go.Proofs.YtphmhelkojdlaaaDoor
open Go.RowKit
set_option linter.unusedSimpArgs false
set_option linter.unusedVariables false
def clsX (x : Int) : Int := bif (bif ((decide ((97 : Int) ≤ x)) && (decide (x ≤ (122 : Int)))) then ((decide ((97 : Int) ≤ x)) && (decide (x ≤ (122 : Int)))) else ((decide ((65 : Int) ≤ x)) && (decide (x ≤ (90 : Int))))) then 3 else
 bif ((decide ((48 : Int) ≤ x)) && (decide (x ≤ (57 : Int)))) then 4 else
 bif (decide ((0 : Int) ≤ (idxB ⟨#[32, 9, 10]⟩ x))) then 1 else
 bif (decide ((0 : Int) ≤ (idxB ⟨#[59, 44, 46, 58, 40, 41, 91, 93, 123, 125, 61]⟩ x))) then 6 else
 bif (bif (decide (x = (60 : Int))) then (decide (x = (60 : Int))) else (decide (x = (62 : Int)))) then 7 else 0
def clsOf (i : Nat) : Int := clsX (wk .u8 ((i : Nat) : Int))
def clsN (i : Nat) : List Int := (List.range i).map clsOf ++ List.replicate (256 - i) 0
def clsL : List Int := (((clsN 256).set 35 2).set 95 5).set 33 8
theorem clsN_len {i : Nat} (h : i ≤ 256) : (clsN i).length = 256 := by
 unfold clsN
 simp; omega
theorem cls_step {l : List Int} {i : Nat} {v : Int} (hl : l = clsN i) (h : i < 256) (hv : clsOf i = v) : l.set i v = clsN (i + 1) := by
 subst hl hv
 unfold clsN
 have e : 256 - i = (256 - (i + 1)) + 1 := by omega
 rw [List.set_append_right _ _ (by simp), e, List.replicate_succ]
 simp [List.range_succ]
theorem cls_skip {l : List Int} {i : Nat} (hl : l = clsN i) (h : i < 256) (hv : clsOf i = 0) : l = clsN (i + 1) := by
 have := cls_step hl h hv
 rw [← this, hl]
 unfold clsN
 have e : 256 - i = (256 - (i + 1)) + 1 := by omega
 rw [List.set_append_right _ _ (by simp), e, List.replicate_succ]
 simp
end Go.Proofs.YtphmhelkojdlaaaDoor
namespace Go.Proofs.YtphmhelkojdlaaaDoor
open Go.RowKit
set_option maxRecDepth 10000
set_option linter.unusedSimpArgs false
set_option linter.unusedVariables false
theorem c102 (s : ByteArray) (c : Int)  : PureCall Tryd.prog 102 [.tv (.str s), .tv (.int .u8 c)] (.i (idxB s c)) := by
 refine walk0 (fn := Tryd.f102) [.tmp 4] Tryd.func102 rfl (by kernel_rfl) rfl (by kernel_rfl) (by kernel_rfl) ?_
 change AT _ _ _ ⟨[(0, .tv (.str s)), (1, .tv (.int .u8 c))], [], [], 0⟩
 refine at_B [0, 1] [] [] [(1000000, .any), (0, .tv (.str s)), (1, .tv (.int .u8 c))] [] 1 (by kernel_rfl) ?_ ?_
 ·exact trivial
 refine at_B [4] [.std, .std, .ret (.i (idxB s c))] [PureCall Tryd.prog 105 [.tv (.str s), .tv (.int .u8 c)] (.i (idxB s c))] [(1000000, .any), (4, .i (idxB s c))] [] 5 (by kernel_rfl) ?_ ?_
 ·exact ⟨(c105 s c), trivial⟩
 refine at_ret ?_
 refine fin0 (.inr rfl) (.i (idxB s c)) [] (.i (idxB s c)) (H2 := []) (by kernel_rfl) (by kernel_rfl) ?_
 refine Le.of_eq ?_
 rfl
noncomputable abbrev b98_1 : Id × AO := ([0], .row (flat (encK .u8) (List.replicate 256 0)) false)
noncomputable abbrev b98_2 : Id × AO := ([1], .row (flat (encK .u8) ((((clsN 256).set 35 2).set 95 5).set 33 8)) false)
noncomputable abbrev b98_3 : Id × AO := ([0], .row (flat (encK .u8) ((((clsN 256).set 35 2).set 95 5).set 33 8)) false)
noncomputable abbrev b98_4 (l : List Int) : Hp := [([1], .row (flat (encK .u8) l) false), b98_1]
theorem c98   : PureCall Tryd.prog 98 [] (.agg (flat (encK .u8) clsL)) := by
 refine walk0 (fn := Tryd.f98) [.cell 0 125] Tryd.func98 rfl (by kernel_rfl) rfl (by kernel_rfl) (by kernel_rfl) ?_
 change AT _ _ _ ⟨[], [], [], 0⟩
 refine at_B [0] [] [] [(1000000, .any), (0, .ptr [0] 0)] [b98_1] 1 (by kernel_rfl) ?_ ?_
 ·exact trivial
 refine at_B [0, 1] [] [] [(1000000, .any), (0, .ptr [0] 0), (1, .ptr [1] 0)] [([1], .row (flat (encK .u8) (List.replicate 256 0)) false), b98_1] 2 (by kernel_rfl) ?_ ?_
 ·exact trivial
 refine at_seq ?_
 refine at_B [0, 1, 4] [] [] [(1000000, .any), (0, .ptr [0] 0), (1, .ptr [1] 0), (4, .i 0)] [([1], .row (flat (encK .u8) (List.replicate 256 0)) false), b98_1] 3 (by kernel_rfl) ?_ ?_
 ·exact trivial
 refine at_block ?_
 refine at_loopR (X := Nat × List Int) 0 (fun ((i, l) : Nat × List Int) => [(1000000, .any), (0, .ptr [0] 0), (1, .ptr [1] 0), (4, .i ((i : Nat) : Int))]) (fun ((i, l) : Nat × List Int) => (b98_4 l)) (fun ((i, l) : Nat × List Int) => i ≤ 256 ∧ l = clsN i) (fun ((i, l) : Nat × List Int) => 256 - i) (0, (List.replicate 256 0)) ?_ ?_ ?_
 ·exact ⟨Nat.zero_le _, rfl⟩
 ·exact rn_ok [([1], [1]), ([0], [0])] [[1], [0]] [0, 1, 4] (⟨clO_flat _ _ _, clO_flat _ _ _, trivial⟩) (by kernel_rfl)
 ·rintro ⟨i, l⟩ hinv
  dsimp only at hinv ⊢
  obtain ⟨hx1, hx2⟩ := hinv
  have hl : l.length = 256 := by rw [hx2]; exact clsN_len hx1
  refine at_B [0, 1, 4, 5] [] [] [(1000000, .any), (0, .ptr [0] 0), (1, .ptr [1] 0), (4, .i ((i : Nat) : Int)), (5, .b (decide (((i : Nat) : Int) < (256 : Int))))] (b98_4 l) 1 (by kernel_rfl) ?_ ?_
  ·exact trivial
  refine at_seq ?_
  refine at_cond (b := (decide (((i : Nat) : Int) < (256 : Int)))) rfl rfl (fun hc5 => ?_) (fun hc5 => ?_)
  ·have q5 := hc5
   (try simp only [brs] at q5)
   refine at_skip ?_
   change AT _ _ _ _
   refine at_seq ?_
   refine at_block ?_
   refine at_B [0, 1, 2, 4] [] [] [(1000000, .any), (0, .ptr [0] 0), (1, .ptr [1] 0), (2, .i ((i : Nat) : Int)), (4, .i ((i : Nat) : Int))] (b98_4 l) 3 (by kernel_rfl) ?_ ?_
   ·exact trivial
   refine at_B [0, 1, 2, 3, 4] [] [] [(1000000, .any), (0, .ptr [0] 0), (1, .ptr [1] 0), (2, .i ((i : Nat) : Int)), (3, .tv (.int .u8 (wk .u8 (((i : Nat) : Int))))), (4, .i ((i : Nat) : Int))] (b98_4 l) 6 (by kernel_rfl) ?_ ?_
   ·exact trivial
   refine at_block ?_
   refine at_seq ?_
   refine at_B [0, 1, 2, 3, 4, 9] [] [] [(1000000, .any), (0, .ptr [0] 0), (1, .ptr [1] 0), (2, .i ((i : Nat) : Int)), (3, .tv (.int .u8 (wk .u8 (((i : Nat) : Int))))), (4, .i ((i : Nat) : Int)), (9, .b ((decide ((97 : Int) ≤ wk .u8 (((i : Nat) : Int)))) && (decide (wk .u8 (((i : Nat) : Int)) ≤ (122 : Int)))))] (b98_4 l) 13 (by kernel_rfl) ?_ ?_
   ·exact trivial
   refine at_mergel (p := [3]) [(1000000, .any), (0, .ptr [0] 0), (1, .ptr [1] 0), (2, .i ((i : Nat) : Int)), (3, .tv (.int .u8 (wk .u8 (((i : Nat) : Int))))), (4, .i ((i : Nat) : Int)), (9, .b (bif ((decide ((97 : Int) ≤ wk .u8 (((i : Nat) : Int)))) && (decide (wk .u8 (((i : Nat) : Int)) ≤ (122 : Int)))) then ((decide ((97 : Int) ≤ wk .u8 (((i : Nat) : Int)))) && (decide (wk .u8 (((i : Nat) : Int)) ≤ (122 : Int)))) else ((decide ((65 : Int) ≤ wk .u8 (((i : Nat) : Int)))) && (decide (wk .u8 (((i : Nat) : Int)) ≤ (90 : Int))))))] [([1], .row (flat (encK .u8) l) false), ([0], .row (flat (encK .u8) (List.replicate 256 0)) false)] 20 ?_ ?_
   ·refine at_cond (b := ((decide ((97 : Int) ≤ wk .u8 (((i : Nat) : Int)))) && (decide (wk .u8 (((i : Nat) : Int)) ≤ (122 : Int))))) rfl rfl (fun hc9 => ?_) (fun hc9 => ?_)
    ·skip
     refine at_skip ?_
     exact gh_merge [0, 1, 2, 3, 4, 9] [[1], [0]] (Eq.trans (b := [(1000000, .any), (0, .ptr [0] 0), (1, .ptr [1] 0), (2, .i ((i : Nat) : Int)), (3, .tv (.int .u8 (wk .u8 (((i : Nat) : Int))))), (4, .i ((i : Nat) : Int)), (9, .b ((decide ((97 : Int) ≤ wk .u8 (((i : Nat) : Int)))) && (decide (wk .u8 (((i : Nat) : Int)) ≤ (122 : Int)))))]) (by kernel_rfl) (by simp only [hc9, cond_true, cond_false]; try rfl)) (by kernel_rfl) (by kernel_rfl)
    ·skip
     refine at_Bl [0, 1, 2, 3, 4, 9] [] [] [(1000000, .any), (0, .ptr [0] 0), (1, .ptr [1] 0), (2, .i ((i : Nat) : Int)), (3, .tv (.int .u8 (wk .u8 (((i : Nat) : Int))))), (4, .i ((i : Nat) : Int)), (9, .b ((decide ((65 : Int) ≤ wk .u8 (((i : Nat) : Int)))) && (decide (wk .u8 (((i : Nat) : Int)) ≤ (90 : Int)))))] (b98_4 l) 20 (by kernel_rfl) ?_ ?_
     ·exact trivial
     exact gh_merge [0, 1, 2, 3, 4, 9] [[1], [0]] (Eq.trans (b := [(1000000, .any), (0, .ptr [0] 0), (1, .ptr [1] 0), (2, .i ((i : Nat) : Int)), (3, .tv (.int .u8 (wk .u8 (((i : Nat) : Int))))), (4, .i ((i : Nat) : Int)), (9, .b ((decide ((65 : Int) ≤ wk .u8 (((i : Nat) : Int)))) && (decide (wk .u8 (((i : Nat) : Int)) ≤ (90 : Int)))))]) (by kernel_rfl) (by simp only [hc9, cond_true, cond_false]; try rfl)) (by kernel_rfl) (by kernel_rfl)
   change AT _ _ _ _
   refine at_cond (b := (bif ((decide ((97 : Int) ≤ wk .u8 (((i : Nat) : Int)))) && (decide (wk .u8 (((i : Nat) : Int)) ≤ (122 : Int)))) then ((decide ((97 : Int) ≤ wk .u8 (((i : Nat) : Int)))) && (decide (wk .u8 (((i : Nat) : Int)) ≤ (122 : Int)))) else ((decide ((65 : Int) ≤ wk .u8 (((i : Nat) : Int)))) && (decide (wk .u8 (((i : Nat) : Int)) ≤ (90 : Int)))))) rfl rfl (fun hc9 => ?_) (fun hc9 => ?_)
   ·have q9 := hc9
    (try simp only [brs] at q9)
    refine at_Bl [0, 1, 4] [.std, .std, .res (.val (.tup []) (.upd [1] (.row (flat (encK .u8) (l.set i 3)) false))) (.tup []) (.upd [1] (.row (flat (encK .u8) (l.set i 3)) false))] [(0 ≤ ((i : Nat) : Int) ∧ ((i : Nat) : Int) < ((256 : Nat) : Int)), evStore Tryd.prog (b98_4 l) 5 (.ptr [1] (0 + i * 1)) (.tv (.int .u8 3)) = .val (.tup []) (.upd [1] (.row (flat (encK .u8) (l.set i 3)) false)), (∃ q, (Res.val (.tup []) (.upd [1] (.row (flat (encK .u8) (l.set i 3)) false))) = .need q (.val (.tup []) (.upd [1] (.row (flat (encK .u8) (l.set i 3)) false))) ∧ q) ∨ (Res.val (.tup []) (.upd [1] (.row (flat (encK .u8) (l.set i 3)) false))) = .val (.tup []) (.upd [1] (.row (flat (encK .u8) (l.set i 3)) false))] [(1000000, .any), (0, .ptr [0] 0), (1, .ptr [1] 0), (4, .i ((i : Nat) : Int))] [([1], .row (flat (encK .u8) (l.set i 3)) false), b98_1] 23 (by kernel_rfl) ?_ ?_
    ·exact ⟨by (try simp only [lns] at *); omega, evStore_flat1A (enc := encK .u8) (c := fun a => .int .u8 a) (l := l) (i := i) (a := 3) (fun _ => rfl) (by kernel_rfl) rfl (by (try simp only [brs, lns] at *); omega), .inr rfl, trivial⟩
    change AT _ _ _ _
    refine at_Bl [0, 1, 4] [.eq (.i ((i + 1 : Nat) : Int))] [(.i (wr (((i : Nat) : Int) + 1)) : AV) = .i ((i + 1 : Nat) : Int)] [(1000000, .any), (0, .ptr [0] 0), (1, .ptr [1] 0), (4, .i ((i + 1 : Nat) : Int))] [([1], .row (flat (encK .u8) (l.set i 3)) false), b98_1] 25 (by kernel_rfl) ?_ ?_
    ·exact ⟨succ_av i (by (try simp only [lns] at *); omega), trivial⟩
    refine ⟨rfl, (i + 1, (l.set i 3)), ?_, ?_, ?_⟩
    ·(try dsimp only); omega
    ·(try dsimp only); first | exact ⟨by omega, cls_step hx2 (by omega) (by unfold clsOf clsX; simp only [hc9, cond_true, cond_false])⟩ | exact ⟨by omega, cls_skip hx2 (by omega) (by unfold clsOf clsX; simp only [hc9, cond_true, cond_false])⟩
    ·exact rn_ok [([1], [1]), ([0], [0])] [[1], [0]] [0, 1, 4] (⟨clO_flat _ _ _, clO_flat _ _ _, trivial⟩) (by kernel_rfl)
   ·have q9 := hc9
    (try simp only [brs] at q9)
    refine at_B [0, 1, 2, 3, 4, 24] [] [] [(1000000, .any), (0, .ptr [0] 0), (1, .ptr [1] 0), (2, .i ((i : Nat) : Int)), (3, .tv (.int .u8 (wk .u8 (((i : Nat) : Int))))), (4, .i ((i : Nat) : Int)), (24, .b ((decide ((48 : Int) ≤ wk .u8 (((i : Nat) : Int)))) && (decide (wk .u8 (((i : Nat) : Int)) ≤ (57 : Int)))))] (b98_4 l) 27 (by kernel_rfl) ?_ ?_
    ·exact trivial
    refine at_cond (b := ((decide ((48 : Int) ≤ wk .u8 (((i : Nat) : Int)))) && (decide (wk .u8 (((i : Nat) : Int)) ≤ (57 : Int))))) rfl rfl (fun hc24 => ?_) (fun hc24 => ?_)
    ·have q24 := hc24
     (try simp only [brs] at q24)
     refine at_Bl [0, 1, 4] [.std, .std, .res (.val (.tup []) (.upd [1] (.row (flat (encK .u8) (l.set i 4)) false))) (.tup []) (.upd [1] (.row (flat (encK .u8) (l.set i 4)) false))] [(0 ≤ ((i : Nat) : Int) ∧ ((i : Nat) : Int) < ((256 : Nat) : Int)), evStore Tryd.prog (b98_4 l) 5 (.ptr [1] (0 + i * 1)) (.tv (.int .u8 4)) = .val (.tup []) (.upd [1] (.row (flat (encK .u8) (l.set i 4)) false)), (∃ q, (Res.val (.tup []) (.upd [1] (.row (flat (encK .u8) (l.set i 4)) false))) = .need q (.val (.tup []) (.upd [1] (.row (flat (encK .u8) (l.set i 4)) false))) ∧ q) ∨ (Res.val (.tup []) (.upd [1] (.row (flat (encK .u8) (l.set i 4)) false))) = .val (.tup []) (.upd [1] (.row (flat (encK .u8) (l.set i 4)) false))] [(1000000, .any), (0, .ptr [0] 0), (1, .ptr [1] 0), (4, .i ((i : Nat) : Int))] [([1], .row (flat (encK .u8) (l.set i 4)) false), b98_1] 30 (by kernel_rfl) ?_ ?_
     ·exact ⟨by (try simp only [lns] at *); omega, evStore_flat1A (enc := encK .u8) (c := fun a => .int .u8 a) (l := l) (i := i) (a := 4) (fun _ => rfl) (by kernel_rfl) rfl (by (try simp only [brs, lns] at *); omega), .inr rfl, trivial⟩
     change AT _ _ _ _
     refine at_Bl [0, 1, 4] [.eq (.i ((i + 1 : Nat) : Int))] [(.i (wr (((i : Nat) : Int) + 1)) : AV) = .i ((i + 1 : Nat) : Int)] [(1000000, .any), (0, .ptr [0] 0), (1, .ptr [1] 0), (4, .i ((i + 1 : Nat) : Int))] [([1], .row (flat (encK .u8) (l.set i 4)) false), b98_1] 32 (by kernel_rfl) ?_ ?_
     ·exact ⟨succ_av i (by (try simp only [lns] at *); omega), trivial⟩
     refine ⟨rfl, (i + 1, (l.set i 4)), ?_, ?_, ?_⟩
     ·(try dsimp only); omega
     ·(try dsimp only); first | exact ⟨by omega, cls_step hx2 (by omega) (by unfold clsOf clsX; simp only [hc9, hc24, cond_true, cond_false])⟩ | exact ⟨by omega, cls_skip hx2 (by omega) (by unfold clsOf clsX; simp only [hc9, hc24, cond_true, cond_false])⟩
     ·exact rn_ok [([1], [1]), ([0], [0])] [[1], [0]] [0, 1, 4] (⟨clO_flat _ _ _, clO_flat _ _ _, trivial⟩) (by kernel_rfl)
    ·have q24 := hc24
     (try simp only [brs] at q24)
     refine at_B [0, 1, 2, 3, 4, 33] [.std, .ret (.i (idxB ⟨#[32, 9, 10]⟩ (wk .u8 (((i : Nat) : Int)))))] [PureCall Tryd.prog 102 [.tv (.str ⟨#[32, 9, 10]⟩), .tv (.int .u8 (wk .u8 (((i : Nat) : Int))))] (.i (idxB ⟨#[32, 9, 10]⟩ (wk .u8 (((i : Nat) : Int)))))] [(1000000, .any), (0, .ptr [0] 0), (1, .ptr [1] 0), (2, .i ((i : Nat) : Int)), (3, .tv (.int .u8 (wk .u8 (((i : Nat) : Int))))), (4, .i ((i : Nat) : Int)), (33, .b (decide ((0 : Int) ≤ (idxB ⟨#[32, 9, 10]⟩ (wk .u8 (((i : Nat) : Int)))))))] (b98_4 l) 31 (by kernel_rfl) ?_ ?_
     ·exact ⟨(c102 ⟨#[32, 9, 10]⟩ (wk .u8 (((i : Nat) : Int)))), trivial⟩
     refine at_cond (b := (decide ((0 : Int) ≤ (idxB ⟨#[32, 9, 10]⟩ (wk .u8 (((i : Nat) : Int))))))) rfl rfl (fun hc33 => ?_) (fun hc33 => ?_)
     ·have q33 := hc33
      (try simp only [brs] at q33)
      refine at_Bl [0, 1, 4] [.std, .std, .res (.val (.tup []) (.upd [1] (.row (flat (encK .u8) (l.set i 1)) false))) (.tup []) (.upd [1] (.row (flat (encK .u8) (l.set i 1)) false))] [(0 ≤ ((i : Nat) : Int) ∧ ((i : Nat) : Int) < ((256 : Nat) : Int)), evStore Tryd.prog (b98_4 l) 5 (.ptr [1] (0 + i * 1)) (.tv (.int .u8 1)) = .val (.tup []) (.upd [1] (.row (flat (encK .u8) (l.set i 1)) false)), (∃ q, (Res.val (.tup []) (.upd [1] (.row (flat (encK .u8) (l.set i 1)) false))) = .need q (.val (.tup []) (.upd [1] (.row (flat (encK .u8) (l.set i 1)) false))) ∧ q) ∨ (Res.val (.tup []) (.upd [1] (.row (flat (encK .u8) (l.set i 1)) false))) = .val (.tup []) (.upd [1] (.row (flat (encK .u8) (l.set i 1)) false))] [(1000000, .any), (0, .ptr [0] 0), (1, .ptr [1] 0), (4, .i ((i : Nat) : Int))] [([1], .row (flat (encK .u8) (l.set i 1)) false), b98_1] 34 (by kernel_rfl) ?_ ?_
      ·exact ⟨by (try simp only [lns] at *); omega, evStore_flat1A (enc := encK .u8) (c := fun a => .int .u8 a) (l := l) (i := i) (a := 1) (fun _ => rfl) (by kernel_rfl) rfl (by (try simp only [brs, lns] at *); omega), .inr rfl, trivial⟩
      change AT _ _ _ _
      refine at_Bl [0, 1, 4] [.eq (.i ((i + 1 : Nat) : Int))] [(.i (wr (((i : Nat) : Int) + 1)) : AV) = .i ((i + 1 : Nat) : Int)] [(1000000, .any), (0, .ptr [0] 0), (1, .ptr [1] 0), (4, .i ((i + 1 : Nat) : Int))] [([1], .row (flat (encK .u8) (l.set i 1)) false), b98_1] 36 (by kernel_rfl) ?_ ?_
      ·exact ⟨succ_av i (by (try simp only [lns] at *); omega), trivial⟩
      refine ⟨rfl, (i + 1, (l.set i 1)), ?_, ?_, ?_⟩
      ·(try dsimp only); omega
      ·(try dsimp only); first | exact ⟨by omega, cls_step hx2 (by omega) (by unfold clsOf clsX; simp only [hc9, hc24, hc33, cond_true, cond_false])⟩ | exact ⟨by omega, cls_skip hx2 (by omega) (by unfold clsOf clsX; simp only [hc9, hc24, hc33, cond_true, cond_false])⟩
      ·exact rn_ok [([1], [1]), ([0], [0])] [[1], [0]] [0, 1, 4] (⟨clO_flat _ _ _, clO_flat _ _ _, trivial⟩) (by kernel_rfl)
     ·have q33 := hc33
      (try simp only [brs] at q33)
      refine at_B [0, 1, 2, 3, 4, 39] [.std, .ret (.i (idxB ⟨#[59, 44, 46, 58, 40, 41, 91, 93, 123, 125, 61]⟩ (wk .u8 (((i : Nat) : Int)))))] [PureCall Tryd.prog 102 [.tv (.str ⟨#[59, 44, 46, 58, 40, 41, 91, 93, 123, 125, 61]⟩), .tv (.int .u8 (wk .u8 (((i : Nat) : Int))))] (.i (idxB ⟨#[59, 44, 46, 58, 40, 41, 91, 93, 123, 125, 61]⟩ (wk .u8 (((i : Nat) : Int)))))] [(1000000, .any), (0, .ptr [0] 0), (1, .ptr [1] 0), (2, .i ((i : Nat) : Int)), (3, .tv (.int .u8 (wk .u8 (((i : Nat) : Int))))), (4, .i ((i : Nat) : Int)), (39, .b (decide ((0 : Int) ≤ (idxB ⟨#[59, 44, 46, 58, 40, 41, 91, 93, 123, 125, 61]⟩ (wk .u8 (((i : Nat) : Int)))))))] (b98_4 l) 35 (by kernel_rfl) ?_ ?_
      ·exact ⟨(c102 ⟨#[59, 44, 46, 58, 40, 41, 91, 93, 123, 125, 61]⟩ (wk .u8 (((i : Nat) : Int)))), trivial⟩
      refine at_cond (b := (decide ((0 : Int) ≤ (idxB ⟨#[59, 44, 46, 58, 40, 41, 91, 93, 123, 125, 61]⟩ (wk .u8 (((i : Nat) : Int))))))) rfl rfl (fun hc39 => ?_) (fun hc39 => ?_)
      ·have q39 := hc39
       (try simp only [brs] at q39)
       refine at_Bl [0, 1, 4] [.std, .std, .res (.val (.tup []) (.upd [1] (.row (flat (encK .u8) (l.set i 6)) false))) (.tup []) (.upd [1] (.row (flat (encK .u8) (l.set i 6)) false))] [(0 ≤ ((i : Nat) : Int) ∧ ((i : Nat) : Int) < ((256 : Nat) : Int)), evStore Tryd.prog (b98_4 l) 5 (.ptr [1] (0 + i * 1)) (.tv (.int .u8 6)) = .val (.tup []) (.upd [1] (.row (flat (encK .u8) (l.set i 6)) false)), (∃ q, (Res.val (.tup []) (.upd [1] (.row (flat (encK .u8) (l.set i 6)) false))) = .need q (.val (.tup []) (.upd [1] (.row (flat (encK .u8) (l.set i 6)) false))) ∧ q) ∨ (Res.val (.tup []) (.upd [1] (.row (flat (encK .u8) (l.set i 6)) false))) = .val (.tup []) (.upd [1] (.row (flat (encK .u8) (l.set i 6)) false))] [(1000000, .any), (0, .ptr [0] 0), (1, .ptr [1] 0), (4, .i ((i : Nat) : Int))] [([1], .row (flat (encK .u8) (l.set i 6)) false), b98_1] 38 (by kernel_rfl) ?_ ?_
       ·exact ⟨by (try simp only [lns] at *); omega, evStore_flat1A (enc := encK .u8) (c := fun a => .int .u8 a) (l := l) (i := i) (a := 6) (fun _ => rfl) (by kernel_rfl) rfl (by (try simp only [brs, lns] at *); omega), .inr rfl, trivial⟩
       change AT _ _ _ _
       refine at_Bl [0, 1, 4] [.eq (.i ((i + 1 : Nat) : Int))] [(.i (wr (((i : Nat) : Int) + 1)) : AV) = .i ((i + 1 : Nat) : Int)] [(1000000, .any), (0, .ptr [0] 0), (1, .ptr [1] 0), (4, .i ((i + 1 : Nat) : Int))] [([1], .row (flat (encK .u8) (l.set i 6)) false), b98_1] 40 (by kernel_rfl) ?_ ?_
       ·exact ⟨succ_av i (by (try simp only [lns] at *); omega), trivial⟩
       refine ⟨rfl, (i + 1, (l.set i 6)), ?_, ?_, ?_⟩
       ·(try dsimp only); omega
       ·(try dsimp only); first | exact ⟨by omega, cls_step hx2 (by omega) (by unfold clsOf clsX; simp only [hc9, hc24, hc33, hc39, cond_true, cond_false])⟩ | exact ⟨by omega, cls_skip hx2 (by omega) (by unfold clsOf clsX; simp only [hc9, hc24, hc33, hc39, cond_true, cond_false])⟩
       ·exact rn_ok [([1], [1]), ([0], [0])] [[1], [0]] [0, 1, 4] (⟨clO_flat _ _ _, clO_flat _ _ _, trivial⟩) (by kernel_rfl)
      ·have q39 := hc39
       (try simp only [brs] at q39)
       refine at_seq ?_
       refine at_B [0, 1, 2, 3, 4, 45] [] [] [(1000000, .any), (0, .ptr [0] 0), (1, .ptr [1] 0), (2, .i ((i : Nat) : Int)), (3, .tv (.int .u8 (wk .u8 (((i : Nat) : Int))))), (4, .i ((i : Nat) : Int)), (45, .b (decide (wk .u8 (((i : Nat) : Int)) = (60 : Int))))] (b98_4 l) 38 (by kernel_rfl) ?_ ?_
       ·exact trivial
       refine at_mergel (p := [3]) [(1000000, .any), (0, .ptr [0] 0), (1, .ptr [1] 0), (2, .i ((i : Nat) : Int)), (4, .i ((i : Nat) : Int)), (45, .b (bif (decide (wk .u8 (((i : Nat) : Int)) = (60 : Int))) then (decide (wk .u8 (((i : Nat) : Int)) = (60 : Int))) else (decide (wk .u8 (((i : Nat) : Int)) = (62 : Int)))))] [([1], .row (flat (encK .u8) l) false), ([0], .row (flat (encK .u8) (List.replicate 256 0)) false)] 41 ?_ ?_
       ·refine at_cond (b := (decide (wk .u8 (((i : Nat) : Int)) = (60 : Int)))) rfl rfl (fun hc45 => ?_) (fun hc45 => ?_)
        ·skip
         refine at_skip ?_
         exact gh_merge [0, 1, 2, 4, 45] [[1], [0]] (Eq.trans (b := [(1000000, .any), (0, .ptr [0] 0), (1, .ptr [1] 0), (2, .i ((i : Nat) : Int)), (4, .i ((i : Nat) : Int)), (45, .b (decide (wk .u8 (((i : Nat) : Int)) = (60 : Int))))]) (by kernel_rfl) (by simp only [hc45, cond_true, cond_false]; try rfl)) (by kernel_rfl) (by kernel_rfl)
        ·skip
         refine at_Bl [0, 1, 2, 4, 45] [] [] [(1000000, .any), (0, .ptr [0] 0), (1, .ptr [1] 0), (2, .i ((i : Nat) : Int)), (4, .i ((i : Nat) : Int)), (45, .b (decide (wk .u8 (((i : Nat) : Int)) = (62 : Int))))] (b98_4 l) 41 (by kernel_rfl) ?_ ?_
         ·exact trivial
         exact gh_merge [0, 1, 2, 4, 45] [[1], [0]] (Eq.trans (b := [(1000000, .any), (0, .ptr [0] 0), (1, .ptr [1] 0), (2, .i ((i : Nat) : Int)), (4, .i ((i : Nat) : Int)), (45, .b (decide (wk .u8 (((i : Nat) : Int)) = (62 : Int))))]) (by kernel_rfl) (by simp only [hc45, cond_true, cond_false]; try rfl)) (by kernel_rfl) (by kernel_rfl)
       change AT _ _ _ _
       refine at_cond (b := (bif (decide (wk .u8 (((i : Nat) : Int)) = (60 : Int))) then (decide (wk .u8 (((i : Nat) : Int)) = (60 : Int))) else (decide (wk .u8 (((i : Nat) : Int)) = (62 : Int))))) rfl rfl (fun hc45 => ?_) (fun hc45 => ?_)
       ·have q45 := hc45
        (try simp only [brs] at q45)
        refine at_Bl [0, 1, 4] [.std, .std, .res (.val (.tup []) (.upd [1] (.row (flat (encK .u8) (l.set i 7)) false))) (.tup []) (.upd [1] (.row (flat (encK .u8) (l.set i 7)) false))] [(0 ≤ ((i : Nat) : Int) ∧ ((i : Nat) : Int) < ((256 : Nat) : Int)), evStore Tryd.prog (b98_4 l) 5 (.ptr [1] (0 + i * 1)) (.tv (.int .u8 7)) = .val (.tup []) (.upd [1] (.row (flat (encK .u8) (l.set i 7)) false)), (∃ q, (Res.val (.tup []) (.upd [1] (.row (flat (encK .u8) (l.set i 7)) false))) = .need q (.val (.tup []) (.upd [1] (.row (flat (encK .u8) (l.set i 7)) false))) ∧ q) ∨ (Res.val (.tup []) (.upd [1] (.row (flat (encK .u8) (l.set i 7)) false))) = .val (.tup []) (.upd [1] (.row (flat (encK .u8) (l.set i 7)) false))] [(1000000, .any), (0, .ptr [0] 0), (1, .ptr [1] 0), (4, .i ((i : Nat) : Int))] [([1], .row (flat (encK .u8) (l.set i 7)) false), b98_1] 44 (by kernel_rfl) ?_ ?_
        ·exact ⟨by (try simp only [lns] at *); omega, evStore_flat1A (enc := encK .u8) (c := fun a => .int .u8 a) (l := l) (i := i) (a := 7) (fun _ => rfl) (by kernel_rfl) rfl (by (try simp only [brs, lns] at *); omega), .inr rfl, trivial⟩
        change AT _ _ _ _
        refine at_Bl [0, 1, 4] [.eq (.i ((i + 1 : Nat) : Int))] [(.i (wr (((i : Nat) : Int) + 1)) : AV) = .i ((i + 1 : Nat) : Int)] [(1000000, .any), (0, .ptr [0] 0), (1, .ptr [1] 0), (4, .i ((i + 1 : Nat) : Int))] [([1], .row (flat (encK .u8) (l.set i 7)) false), b98_1] 46 (by kernel_rfl) ?_ ?_
        ·exact ⟨succ_av i (by (try simp only [lns] at *); omega), trivial⟩
        refine ⟨rfl, (i + 1, (l.set i 7)), ?_, ?_, ?_⟩
        ·(try dsimp only); omega
        ·(try dsimp only); first | exact ⟨by omega, cls_step hx2 (by omega) (by unfold clsOf clsX; simp only [hc9, hc24, hc33, hc39, hc45, cond_true, cond_false])⟩ | exact ⟨by omega, cls_skip hx2 (by omega) (by unfold clsOf clsX; simp only [hc9, hc24, hc33, hc39, hc45, cond_true, cond_false])⟩
        ·exact rn_ok [([1], [1]), ([0], [0])] [[1], [0]] [0, 1, 4] (⟨clO_flat _ _ _, clO_flat _ _ _, trivial⟩) (by kernel_rfl)
       ·have q45 := hc45
        (try simp only [brs] at q45)
        refine at_skip ?_
        change AT _ _ _ _
        refine at_Bl [0, 1, 4] [.eq (.i ((i + 1 : Nat) : Int))] [(.i (wr (((i : Nat) : Int) + 1)) : AV) = .i ((i + 1 : Nat) : Int)] [(1000000, .any), (0, .ptr [0] 0), (1, .ptr [1] 0), (4, .i ((i + 1 : Nat) : Int))] (b98_4 l) 43 (by kernel_rfl) ?_ ?_
        ·exact ⟨succ_av i (by (try simp only [lns] at *); omega), trivial⟩
        refine ⟨rfl, (i + 1, l), ?_, ?_, ?_⟩
        ·(try dsimp only); omega
        ·(try dsimp only); first | exact ⟨by omega, cls_step hx2 (by omega) (by unfold clsOf clsX; simp only [hc9, hc24, hc33, hc39, hc45, cond_true, cond_false])⟩ | exact ⟨by omega, cls_skip hx2 (by omega) (by unfold clsOf clsX; simp only [hc9, hc24, hc33, hc39, hc45, cond_true, cond_false])⟩
        ·exact rn_ok [([1], [1]), ([0], [0])] [[1], [0]] [0, 1, 4] (⟨clO_flat _ _ _, clO_flat _ _ _, trivial⟩) (by kernel_rfl)
  ·have q5 := hc5
   (try simp only [brs] at q5)
   have hxe : i = 256 := by omega
   have hsub : l = (clsN 256) := by rw [hx2, hxe]
   subst hsub
   refine at_exit ?_
   change AT _ _ _ _
   have hl2 := clsN_len (Nat.le_refl 256)
   refine at_B [0, 1] [.std, .res (.val (.tup []) (.upd [1] (.row (flat (encK .u8) ((clsN 256).set 35 2)) false))) (.tup []) (.upd [1] (.row (flat (encK .u8) ((clsN 256).set 35 2)) false)), .std, .res (.val (.tup []) (.upd [1] (.row (flat (encK .u8) (((clsN 256).set 35 2).set 95 5)) false))) (.tup []) (.upd [1] (.row (flat (encK .u8) (((clsN 256).set 35 2).set 95 5)) false)), .std, .res (.val (.tup []) (.upd [1] (.row (flat (encK .u8) ((((clsN 256).set 35 2).set 95 5).set 33 8)) false))) (.tup []) (.upd [1] (.row (flat (encK .u8) ((((clsN 256).set 35 2).set 95 5).set 33 8)) false))] [(0 ≤ (35 : Int) ∧ (35 : Int) < ((256 : Nat) : Int)), evStore Tryd.prog [([1], .row (flat (encK .u8) (clsN 256)) false), b98_1] 5 (.ptr [1] 35) (.tv (.int .u8 2)) = .val (.tup []) (.upd [1] (.row (flat (encK .u8) ((clsN 256).set 35 2)) false)), (∃ q, (Res.val (.tup []) (.upd [1] (.row (flat (encK .u8) ((clsN 256).set 35 2)) false))) = .need q (.val (.tup []) (.upd [1] (.row (flat (encK .u8) ((clsN 256).set 35 2)) false))) ∧ q) ∨ (Res.val (.tup []) (.upd [1] (.row (flat (encK .u8) ((clsN 256).set 35 2)) false))) = .val (.tup []) (.upd [1] (.row (flat (encK .u8) ((clsN 256).set 35 2)) false)), (0 ≤ (95 : Int) ∧ (95 : Int) < ((256 : Nat) : Int)), evStore Tryd.prog [([1], .row (flat (encK .u8) ((clsN 256).set 35 2)) false), b98_1] 5 (.ptr [1] 95) (.tv (.int .u8 5)) = .val (.tup []) (.upd [1] (.row (flat (encK .u8) (((clsN 256).set 35 2).set 95 5)) false)), (∃ q, (Res.val (.tup []) (.upd [1] (.row (flat (encK .u8) (((clsN 256).set 35 2).set 95 5)) false))) = .need q (.val (.tup []) (.upd [1] (.row (flat (encK .u8) (((clsN 256).set 35 2).set 95 5)) false))) ∧ q) ∨ (Res.val (.tup []) (.upd [1] (.row (flat (encK .u8) (((clsN 256).set 35 2).set 95 5)) false))) = .val (.tup []) (.upd [1] (.row (flat (encK .u8) (((clsN 256).set 35 2).set 95 5)) false)), (0 ≤ (33 : Int) ∧ (33 : Int) < ((256 : Nat) : Int)), evStore Tryd.prog [([1], .row (flat (encK .u8) (((clsN 256).set 35 2).set 95 5)) false), b98_1] 5 (.ptr [1] 33) (.tv (.int .u8 8)) = .val (.tup []) (.upd [1] (.row (flat (encK .u8) ((((clsN 256).set 35 2).set 95 5).set 33 8)) false)), (∃ q, (Res.val (.tup []) (.upd [1] (.row (flat (encK .u8) ((((clsN 256).set 35 2).set 95 5).set 33 8)) false))) = .need q (.val (.tup []) (.upd [1] (.row (flat (encK .u8) ((((clsN 256).set 35 2).set 95 5).set 33 8)) false))) ∧ q) ∨ (Res.val (.tup []) (.upd [1] (.row (flat (encK .u8) ((((clsN 256).set 35 2).set 95 5).set 33 8)) false))) = .val (.tup []) (.upd [1] (.row (flat (encK .u8) ((((clsN 256).set 35 2).set 95 5).set 33 8)) false))] [(1000000, .any), (0, .ptr [0] 0), (1, .ptr [1] 0)] [b98_2, b98_1] 10 (by kernel_rfl) ?_ ?_
   ·exact ⟨by (try simp only [lns] at *); omega, evStore_flat1 (enc := encK .u8) (c := fun a => .int .u8 a) (l := (clsN 256)) (i := 35) (a := 2) (fun _ => rfl) (by kernel_rfl) rfl (by (try simp only [brs, lns] at *); omega), .inr rfl, by (try simp only [lns] at *); omega, evStore_flat1 (enc := encK .u8) (c := fun a => .int .u8 a) (l := ((clsN 256).set 35 2)) (i := 95) (a := 5) (fun _ => rfl) (by kernel_rfl) rfl (by (try simp only [brs, lns] at *); omega), .inr rfl, by (try simp only [lns] at *); omega, evStore_flat1 (enc := encK .u8) (c := fun a => .int .u8 a) (l := (((clsN 256).set 35 2).set 95 5)) (i := 33) (a := 8) (fun _ => rfl) (by kernel_rfl) rfl (by (try simp only [brs, lns] at *); omega), .inr rfl, trivial⟩
   refine at_B [0] [] [] [(1000000, .any), (0, .ptr [0] 0)] [b98_2, b98_3] 12 (by kernel_rfl) ?_ ?_
   ·exact trivial
   refine at_ret ?_
   refine fin0 (.inr rfl) (.agg (flat (encK .u8) ((((clsN 256).set 35 2).set 95 5).set 33 8))) [b98_2, b98_3] (.agg (flat (encK .u8) ((((clsN 256).set 35 2).set 95 5).set 33 8))) (H2 := [b98_2, b98_3]) (by kernel_rfl) (by kernel_rfl) ?_
   refine Le.of_eq ?_
   first | rfl | (simp only [*])
end Go.Proofs.YtphmhelkojdlaaaDoor
namespace Go.Proofs.YtphmhelkojdlaaaDoor
open Go.RowKit
set_option linter.unusedSimpArgs false
set_option linter.unusedVariables false
def atF (s : ByteArray) (i : Int) : Int := bif decide ((s.size : Int) ≤ i) then 0 else clsL.getD (sbyte s i).toNat 0
theorem clsL_len : clsL.length = 256 := by
 unfold clsL
 simp [clsN_len]
theorem sbyte_lt (s : ByteArray) (i : Int) : 0 ≤ sbyte s i ∧ sbyte s i < 256 := by
 unfold sbyte
 have := (s.data.toList.getD i.toNat 0).toNat_lt
 omega
/-! ### Numbers -/
theorem bytesI_len (s : ByteArray) : (bytesI s).length = s.size := by simp [bytesI]
theorem bytesI_get (s : ByteArray) (i : Nat) : (bytesI s).getD i 0 = sbyte s i := by
 unfold bytesI sbyte
 simp only [List.getD_eq_getElem?_getD, List.getElem?_map]
 cases h : s.data.toList[i]? with
 | none => simp [h]
 | some b => simp [h]
def stepA (n c : Int) : Int := wr (wr (n * 10) + wk .i64 (wk .u8 (c - 48)))
def atoiV (s : ByteArray) : Int := (bytesI s).foldl stepA 0
theorem at_step {s : ByteArray} {i : Nat} {n : Int} (h : i < (bytesI s).length) (hi : ((bytesI s).drop i).foldl stepA n = atoiV s) : ((bytesI s).drop (i + 1)).foldl stepA (stepA n ((bytesI s).getD i 0)) = atoiV s := by
 rw [drop_get _ i 0 h, List.foldl_cons] at hi; exact hi
theorem at_end {s : ByteArray} {i : Nat} {n : Int} (h : (bytesI s).length ≤ i) (hi : ((bytesI s).drop i).foldl stepA n = atoiV s) : n = atoiV s := by
 rw [List.drop_of_length_le h] at hi; exact hi
theorem dg_sub {c : Int} (h : 48 ≤ c ∧ c ≤ 57) : ¬ 9 < wk .u8 (c - 48) := by
 have e : wk .u8 (c - 48) = c - 48 := by
  unfold wk IntKind.wrap
  simp [IntKind.signed, IntKind.bits]
  omega
 rw [e]; omega
end Go.Proofs.YtphmhelkojdlaaaDoor
namespace Go.Proofs.YtphmhelkojdlaaaDoor
open Go.RowKit
set_option maxRecDepth 10000
set_option linter.unusedSimpArgs false
set_option linter.unusedVariables false
noncomputable abbrev b99_1 : Id × AO := ([1], .row (flat (encK .u8) clsL) false)
noncomputable abbrev b99_2 (s : ByteArray) : Hp := [([0], .row [.tv (.str s)] false), b99_1]
theorem c99 (i : Int) (s : ByteArray) (h0 : 0 ≤ i) : StabCall Tryd.prog 99 [.i i, .ptr [0] 0, .ptr [1] 0] (b99_2 s) (.tv (.int .u8 (atF s i))) := by
 refine stab_mv (args := [.i i, .ptr [0] 0, .ptr [1] 0]) (H := (b99_2 s)) (H2 := (b99_2 s)) (q := [50]) [([0], [0]), ([1], [1])] [([0], [0]), ([1], [1])] [[1]] [[1]] ?_ (by kernel_rfl) (by kernel_rfl) (⟨clO_flat _ _ _, trivial⟩) (by kernel_rfl) (by kernel_rfl) (⟨clO_flat _ _ _, trivial⟩)
 refine call_in (fn := Tryd.f99) [.tmp 4] Tryd.func99 rfl (by kernel_rfl) rfl ?_
 change AT _ _ _ ⟨[(0, .i i), (1, .ptr [0] 0), (2, .ptr [1] 0)], (b99_2 s), [50], 0⟩
 refine at_B [0, 1, 2] [] [] [(1000000, .any), (0, .i i), (1, .ptr [0] 0), (2, .ptr [1] 0)] (b99_2 s) 1 (by kernel_rfl) ?_ ?_
 ·exact trivial
 refine at_seq ?_
 refine at_B [0, 1, 2, 8] [] [] [(1000000, .any), (0, .i i), (1, .ptr [0] 0), (2, .ptr [1] 0), (8, .b (decide (((s.size : Nat) : Int) ≤ i)))] (b99_2 s) 5 (by kernel_rfl) ?_ ?_
 ·exact trivial
 refine at_cond (b := (decide (((s.size : Nat) : Int) ≤ i))) rfl rfl (fun hc8_1 => ?_) (fun hc8_1 => ?_)
 ·have q8_1 := hc8_1
  (try simp only [brs] at q8_1)
  refine at_B [4] [] [] [(1000000, .any), (4, .tv (.int .u8 0))] (b99_2 s) 6 (by kernel_rfl) ?_ ?_
  ·exact trivial
  refine at_ret ?_
  exact fin_in (.inr rfl) [[0], [1]] (.tv (.int .u8 0)) (b99_2 s) (by kernel_rfl) (by rw [atF, hc8_1]; rfl) (by kernel_rfl)
 ·have q8_1 := hc8_1
  (try simp only [brs] at q8_1)
  have hb := sbyte_lt s i
  have hcl := clsL_len
  refine at_skip ?_
  change AT _ _ _ _
  refine at_B [4] [.std, .std, .std, .std, .res (.val (.tv (.int .u8 (clsL.getD (sbyte s i).toNat 0))) .no) (.tv (.int .u8 (clsL.getD (sbyte s i).toNat 0))) .no] [(0 ≤ i ∧ i < ((s.size : Nat) : Int)), (0 ≤ sbyte s i ∧ sbyte s i < ((256 : Nat) : Int)), evLoad Tryd.prog (b99_2 s) 5 (.ptr [1] (0 + (sbyte s i).toNat * 1)) = .val (.tv (.int .u8 (clsL.getD (sbyte s i).toNat 0))) .no, (∃ q, (Res.val (.tv (.int .u8 (clsL.getD (sbyte s i).toNat 0))) .no) = .need q (.val (.tv (.int .u8 (clsL.getD (sbyte s i).toNat 0))) .no) ∧ q) ∨ (Res.val (.tv (.int .u8 (clsL.getD (sbyte s i).toNat 0))) .no) = .val (.tv (.int .u8 (clsL.getD (sbyte s i).toNat 0))) .no] [(1000000, .any), (4, .tv (.int .u8 (clsL.getD (sbyte s i).toNat 0)))] (b99_2 s) 11 (by kernel_rfl) ?_ ?_
  ·exact ⟨by (try simp only [lns] at *); omega, by (try simp only [lns] at *); omega, evLoad_flat1A (enc := encK .u8) (c := fun a => .int .u8 a) (l := clsL) (i := (sbyte s i).toNat) (d := 0) (fun _ => rfl) (by kernel_rfl) (by kernel_rfl) rfl (by (try simp only [brs, lns] at *); omega), .inr rfl, trivial⟩
  refine at_ret ?_
  exact fin_in (.inr rfl) [[0], [1]] (.tv (.int .u8 (clsL.getD (sbyte s i).toNat 0))) (b99_2 s) (by kernel_rfl) (by rw [atF, hc8_1]; rfl) (by kernel_rfl)
theorem c103 (s : ByteArray) (h1 : 1 ≤ s.size) (h2 : s.size ≤ 18) (hd : ∀ i : Nat, i < s.size → 48 ≤ sbyte s ((i : Nat) : Int) ∧ sbyte s ((i : Nat) : Int) ≤ 57) : PureCall Tryd.prog 103 [.tv (.str s)] (.tup [.i (atoiV s), .tv .nili]) := by
 refine walk0 (fn := Tryd.f103) [.tmp 2, .tmp 3] Tryd.func103 rfl (by kernel_rfl) rfl (by kernel_rfl) (by kernel_rfl) ?_
 change AT _ _ _ ⟨[(0, .tv (.str s))], [], [], 0⟩
 have hbl := bytesI_len s
 have hd0 : 48 ≤ sbyte s (0 : Int) ∧ sbyte s (0 : Int) ≤ 57 := hd 0 (by omega)
 refine at_B [0] [] [] [(1000000, .any), (0, .tv (.str s))] [] 2 (by kernel_rfl) ?_ ?_
 ·exact trivial
 refine at_B [0, 4] [] [] [(1000000, .any), (0, .tv (.str s)), (4, .i ((s.size : Nat) : Int))] [] 5 (by kernel_rfl) ?_ ?_
 ·exact trivial
 refine at_seq ?_
 refine at_B [0, 30] [] [] [(1000000, .any), (0, .tv (.str s)), (30, .b ((decide ((0 : Int) < ((s.size : Nat) : Int))) && (decide (((s.size : Nat) : Int) < (19 : Int)))))] [] 23 (by kernel_rfl) ?_ ?_
 ·exact trivial
 refine at_cond (b := ((decide ((0 : Int) < ((s.size : Nat) : Int))) && (decide (((s.size : Nat) : Int) < (19 : Int))))) rfl rfl (fun hc30 => ?_) (fun hc30 => ?_)
 ·have q30 := hc30
  (try simp only [brs] at q30)
  refine at_B [0, 5] [] [] [(1000000, .any), (0, .tv (.str s)), (5, .tv (.str s))] [] 25 (by kernel_rfl) ?_ ?_
  ·exact trivial
  refine at_seq ?_
  refine at_B [0, 5, 39] [] [(0 ≤ (0 : Int) ∧ (0 : Int) < ((s.size : Nat) : Int)), ((decide (sbyte s (0 : Int) = (45 : Int))) = false) → (0 ≤ (0 : Int) ∧ (0 : Int) < ((s.size : Nat) : Int))] [(1000000, .any), (0, .tv (.str s)), (5, .tv (.str s)), (39, .b ((decide (sbyte s (0 : Int) = (45 : Int))) || (decide (sbyte s (0 : Int) = (43 : Int)))))] [] 33 (by kernel_rfl) ?_ ?_
  ·exact ⟨by (try simp only [lns] at *); omega, fun hg0 => by (try simp only [brs, lns] at *); omega, trivial⟩
  refine at_cond (b := ((decide (sbyte s (0 : Int) = (45 : Int))) || (decide (sbyte s (0 : Int) = (43 : Int))))) rfl rfl (fun hc39 => ?_) (fun hc39 => ?_)
  ·have q39 := hc39
   (try simp only [brs] at q39)
   exact absurd q39 (by omega)
  ·have q39 := hc39
   (try simp only [brs] at q39)
   refine at_skip ?_
   change AT _ _ _ _
   refine at_B [0, 5, 6] [] [] [(1000000, .any), (0, .tv (.str s)), (5, .tv (.str s)), (6, .i 0)] [] 34 (by kernel_rfl) ?_ ?_
   ·exact trivial
   refine at_seq ?_
   refine at_B [5, 6, 47, 48, 49] [.std, .eq (.tv (.sli 1 ((bytesI s).map (encK .u8))))] [(.tv (.sli 1 (chunk 1 s.size (s.data.toList.map fun b => TV.int .u8 (b.toNat : Int)))) : AV) = .tv (.sli 1 ((bytesI s).map (encK .u8)))] [(1000000, .any), (5, .tv (.str s)), (6, .i 0), (47, .tv (.sli 1 ((bytesI s).map (encK .u8)))), (48, .i ((((bytesI s).map (encK .u8)).length : Nat) : Int)), (49, .i 0)] [] 38 (by kernel_rfl) ?_ ?_
   ·exact ⟨bytes_chunk s, trivial⟩
   refine at_block ?_
   refine at_loopR (X := Nat × Int) 0 (fun ((i, n) : Nat × Int) => [(1000000, .any), (5, .tv (.str s)), (6, .i n), (47, .tv (.sli 1 ((bytesI s).map (encK .u8)))), (48, .i ((((bytesI s).map (encK .u8)).length : Nat) : Int)), (49, .i ((i : Nat) : Int))]) (fun ((i, n) : Nat × Int) => []) (fun ((i, n) : Nat × Int) => i ≤ (bytesI s).length ∧ ((bytesI s).drop i).foldl stepA n = atoiV s) (fun ((i, n) : Nat × Int) => (bytesI s).length - i) (0, 0) ?_ ?_ ?_
   ·exact ⟨Nat.zero_le _, rfl⟩
   ·exact rn_ok [] [] [5, 6, 47, 48, 49] (trivial) (by kernel_rfl)
   ·rintro ⟨i, n⟩ hinv
    dsimp only at hinv ⊢
    obtain ⟨hx1, hx2⟩ := hinv
    refine at_B [5, 6, 47, 48, 49, 50] [] [] [(1000000, .any), (5, .tv (.str s)), (6, .i n), (47, .tv (.sli 1 ((bytesI s).map (encK .u8)))), (48, .i ((((bytesI s).map (encK .u8)).length : Nat) : Int)), (49, .i ((i : Nat) : Int)), (50, .b (decide (((i : Nat) : Int) < ((((bytesI s).map (encK .u8)).length : Nat) : Int))))] [] 1 (by kernel_rfl) ?_ ?_
    ·exact trivial
    refine at_seq ?_
    refine at_cond (b := (decide (((i : Nat) : Int) < ((((bytesI s).map (encK .u8)).length : Nat) : Int)))) rfl rfl (fun hc50 => ?_) (fun hc50 => ?_)
    ·have q50 := hc50
     (try simp only [brs] at q50)
     refine at_skip ?_
     change AT _ _ _ _
     refine at_seq ?_
     refine at_block ?_
     refine at_B [5, 6, 8, 47, 48, 49] [.eq (.tv (.ptr [.int .u8 ((bytesI s).getD i 0)]))] [(0 ≤ ((i : Nat) : Int) ∧ ((i : Nat) : Int) < (((((bytesI s).map (encK .u8)) : List (List TV)).length : Nat) : Int)), (.tv (.ptr (rowAt ((bytesI s).map (encK .u8)) ((i : Nat) : Int))) : AV) = .tv (.ptr [.int .u8 ((bytesI s).getD i 0)])] [(1000000, .any), (5, .tv (.str s)), (6, .i n), (8, .tv (.int .u8 ((bytesI s).getD i 0))), (47, .tv (.sli 1 ((bytesI s).map (encK .u8)))), (48, .i ((((bytesI s).map (encK .u8)).length : Nat) : Int)), (49, .i ((i : Nat) : Int))] [] 4 (by kernel_rfl) ?_ ?_
     ·exact ⟨by (try simp only [lns] at *); omega, congrArg (fun c => AV.tv (.ptr c)) (row_enc (encK .u8) (bytesI s) ((i : Nat) : Int) 0 (by (try simp only [brs, lns] at *); omega)), trivial⟩
     refine at_B [5, 6, 8, 47, 48, 49] [] [] [(1000000, .any), (5, .tv (.str s)), (6, .i n), (8, .tv (.int .u8 (wk .u8 (((bytesI s).getD i 0) - 48)))), (47, .tv (.sli 1 ((bytesI s).map (encK .u8)))), (48, .i ((((bytesI s).map (encK .u8)).length : Nat) : Int)), (49, .i ((i : Nat) : Int))] [] 7 (by kernel_rfl) ?_ ?_
     ·exact trivial
     refine at_seq ?_
     refine at_B [5, 6, 8, 47, 48, 49, 56] [] [] [(1000000, .any), (5, .tv (.str s)), (6, .i n), (8, .tv (.int .u8 (wk .u8 (((bytesI s).getD i 0) - 48)))), (47, .tv (.sli 1 ((bytesI s).map (encK .u8)))), (48, .i ((((bytesI s).map (encK .u8)).length : Nat) : Int)), (49, .i ((i : Nat) : Int)), (56, .b (decide ((9 : Int) < wk .u8 (((bytesI s).getD i 0) - 48))))] [] 9 (by kernel_rfl) ?_ ?_
     ·exact trivial
     refine at_cond (b := (decide ((9 : Int) < wk .u8 (((bytesI s).getD i 0) - 48)))) rfl rfl (fun hc56 => ?_) (fun hc56 => ?_)
     ·have q56 := hc56
      (try simp only [brs] at q56)
      exact absurd q56 (dg_sub (by rw [bytesI_get]; exact hd i (by omega)))
     ·have q56 := hc56
      (try simp only [brs] at q56)
      refine at_skip ?_
      change AT _ _ _ _
      refine at_Bl [5, 6, 47, 48, 49] [] [] [(1000000, .any), (5, .tv (.str s)), (6, .i (wr ((wr (n * 10)) + (wr (wk .u8 (((bytesI s).getD i 0) - 48)))))), (47, .tv (.sli 1 ((bytesI s).map (encK .u8)))), (48, .i ((((bytesI s).map (encK .u8)).length : Nat) : Int)), (49, .i ((i : Nat) : Int))] [] 15 (by kernel_rfl) ?_ ?_
      ·exact trivial
      change AT _ _ _ _
      refine at_Bl [5, 6, 47, 48, 49] [.eq (.i ((i + 1 : Nat) : Int))] [(.i (wr (((i : Nat) : Int) + 1)) : AV) = .i ((i + 1 : Nat) : Int)] [(1000000, .any), (5, .tv (.str s)), (6, .i (wr ((wr (n * 10)) + (wr (wk .u8 (((bytesI s).getD i 0) - 48)))))), (47, .tv (.sli 1 ((bytesI s).map (encK .u8)))), (48, .i ((((bytesI s).map (encK .u8)).length : Nat) : Int)), (49, .i ((i + 1 : Nat) : Int))] [] 17 (by kernel_rfl) ?_ ?_
      ·exact ⟨succ_av i (by (try simp only [lns] at *); omega), trivial⟩
      refine ⟨rfl, (i + 1, wr ((wr (n * 10)) + (wr (wk .u8 (((bytesI s).getD i 0) - 48))))), ?_, ?_, ?_⟩
      ·(try dsimp only); omega
      ·(try dsimp only); exact ⟨by omega, at_step (by omega) hx2⟩
      ·exact rn_ok [] [] [5, 6, 47, 48, 49] (trivial) (by kernel_rfl)
    ·have q50 := hc50
     (try simp only [brs] at q50)
     have hxe := at_end (by omega) hx2
     refine at_exit ?_
     change AT _ _ _ _
     refine at_seq ?_
     refine at_B [6, 66] [] [(0 ≤ (0 : Int) ∧ (0 : Int) < ((s.size : Nat) : Int))] [(1000000, .any), (6, .i n), (66, .b (decide (sbyte s (0 : Int) = (45 : Int))))] [] 42 (by kernel_rfl) ?_ ?_
     ·exact ⟨by (try simp only [lns] at *); omega, trivial⟩
     refine at_mergel (p := []) [(1000000, .any), (6, .i (bif (decide (sbyte s (0 : Int) = (45 : Int))) then wr (0 - n) else n))] [] 45 ?_ ?_
     ·refine at_cond (b := (decide (sbyte s (0 : Int) = (45 : Int)))) rfl rfl (fun hc66 => ?_) (fun hc66 => ?_)
      ·skip
       refine at_Bl [6] [] [] [(1000000, .any), (6, .i (wr (0 - n)))] [] 45 (by kernel_rfl) ?_ ?_
       ·exact trivial
       exact gh_merge [6] [] (Eq.trans (b := [(1000000, .any), (6, .i (wr (0 - n)))]) (by kernel_rfl) (by simp only [hc66, cond_true, cond_false]; try rfl)) (by kernel_rfl) (by kernel_rfl)
      ·skip
       refine at_skip ?_
       exact gh_merge [6] [] (Eq.trans (b := [(1000000, .any), (6, .i n)]) (by kernel_rfl) (by simp only [hc66, cond_true, cond_false]; try rfl)) (by kernel_rfl) (by kernel_rfl)
     change AT _ _ _ _
     refine at_B [2, 3] [] [] [(1000000, .any), (2, .i (bif (decide (sbyte s (0 : Int) = (45 : Int))) then wr (0 - n) else n)), (3, .tv .nili)] [] 48 (by kernel_rfl) ?_ ?_
     ·exact trivial
     refine at_ret ?_
     refine fin0 (.inr rfl) (.tup [.i (bif (decide (sbyte s (0 : Int) = (45 : Int))) then wr (0 - n) else n), .tv .nili]) [] (.tup [.i (bif (decide (sbyte s (0 : Int) = (45 : Int))) then wr (0 - n) else n), .tv .nili]) (H2 := []) (by kernel_rfl) (by kernel_rfl) ?_
     refine Le.of_eq ?_
     rw [hxe, decide_eq_false (show ¬ sbyte s (0 : Int) = 45 from by omega)]; rfl
 ·have q30 := hc30
  (try simp only [brs] at q30)
  exact absurd q30 (by omega)
theorem c101 (s : ByteArray) (h1 : 1 ≤ s.size) (h2 : s.size ≤ 18) (hd : ∀ i : Nat, i < s.size → 48 ≤ sbyte s ((i : Nat) : Int) ∧ sbyte s ((i : Nat) : Int) ≤ 57) : PureCall Tryd.prog 101 [.tv (.str s)] (.tup [.i (atoiV s), .tv .nili]) := by
 refine walk0 (fn := Tryd.f101) [.tmp 2, .tmp 3] Tryd.func101 rfl (by kernel_rfl) rfl (by kernel_rfl) (by kernel_rfl) ?_
 change AT _ _ _ ⟨[(0, .tv (.str s))], [], [], 0⟩
 refine at_B [0] [] [] [(1000000, .any), (0, .tv (.str s))] [] 2 (by kernel_rfl) ?_ ?_
 ·exact trivial
 refine at_B [0, 4, 5] [.std, .ret (.tup [.i (atoiV s), .tv .nili])] [PureCall Tryd.prog 103 [.tv (.str s)] (.tup [.i (atoiV s), .tv .nili])] [(1000000, .any), (0, .tv (.str s)), (4, .i (atoiV s)), (5, .tv .nili)] [] 9 (by kernel_rfl) ?_ ?_
 ·exact ⟨(c103 s h1 h2 hd), trivial⟩
 refine at_seq ?_
 refine at_B [0, 4, 5, 12] [] [] [(1000000, .any), (0, .tv (.str s)), (4, .i (atoiV s)), (5, .tv .nili), (12, .b false)] [] 11 (by kernel_rfl) ?_ ?_
 ·exact trivial
 refine at_cond (b := false) rfl rfl (fun h => ?_) (fun h => ?_)
 ·cases h
 clear h
 refine at_skip ?_
 change AT _ _ _ _
 refine at_B [2, 3] [] [] [(1000000, .any), (2, .i (atoiV s)), (3, .tv .nili)] [] 14 (by kernel_rfl) ?_ ?_
 ·exact trivial
 refine at_ret ?_
 refine fin0 (.inr rfl) (.tup [.i (atoiV s), .tv .nili]) [] (.tup [.i (atoiV s), .tv .nili]) (H2 := []) (by kernel_rfl) (by kernel_rfl) ?_
 refine Le.of_eq ?_
 rfl
end Go.Proofs.YtphmhelkojdlaaaDoor
namespace Go.Proofs.YtphmhelkojdlaaaDoor
open Go.RowKit
set_option linter.unusedSimpArgs false
set_option linter.unusedVariables false
structure Tk where
 kd : Int
 tx : ByteArray
 n : Int
 at_ : Int
def Tk.z : Tk := ⟨0, ByteArray.empty, 0, 0⟩
def celT (c : Tk) : List TV := [.int .i64 c.kd, .str c.tx, .int .i64 c.n, .int .i64 c.at_]
theorem row_T (l : List Tk) (i : Int) (h : 0 ≤ i ∧ i < ((l.map celT).length : Int)) : rowAt (l.map celT) i = celT (l.getD i.toNat Tk.z) := row_enc celT l i _ h
theorem wr_ok {n : Int} (h1 : -9223372036854775808 ≤ n) (h2 : n ≤ 9223372036854775807) : wr n = n := wr_fit n ⟨h1, h2⟩
/-! ### Runs of bytes of one kind -/
def runE (p : Int → Bool) : Nat → Int → Int
 | 0, i => i
 | k + 1, i => bif p i then runE p k (i + 1) else i
def runI (p : Int → Bool) (s : ByteArray) (i : Int) : Int := runE p ((s.size : Int) - i).toNat i
def nmC (s : ByteArray) (j : Int) : Bool := (((decide ((atF s j) = (3 : Int))) || (decide ((atF s j) = (4 : Int)))) || (decide ((atF s j) = (5 : Int))))
def dgC (s : ByteArray) (j : Int) : Bool := (decide ((atF s j) = (4 : Int)))
def hsC (s : ByteArray) (j : Int) : Bool := ((decide (j < ((s.size : Nat) : Int))) && (!decide (sbyte s j = (10 : Int))))
theorem atF_lt {s : ByteArray} {j : Int} (h : ¬ atF s j = 0) : j < s.size := by
 unfold atF at h
 by_cases e : (s.size : Int) ≤ j
 ·rw [decide_eq_true e] at h; exact absurd rfl h
 ·omega
theorem nmC_lt {s : ByteArray} {j : Int} (h : nmC s j = true) : j < s.size := by
 refine atF_lt fun e => ?_
 unfold nmC at h
 rw [e] at h; cases h
theorem dgC_lt {s : ByteArray} {j : Int} (h : dgC s j = true) : j < s.size := by
 refine atF_lt fun e => ?_
 unfold dgC at h
 rw [e] at h; cases h
theorem hsC_lt {s : ByteArray} {j : Int} (h : hsC s j = true) : j < s.size := by
 unfold hsC at h
 rw [Bool.and_eq_true, decide_eq_true_eq] at h
 exact h.1
theorem runE_ge (p : Int → Bool) : ∀ (k : Nat) (i : Int), i ≤ runE p k i ∧ runE p k i ≤ i + k
 | 0, i => by simp [runE]
 | k + 1, i => by
  have := runE_ge p k (i + 1)
  unfold runE
  cases p i with
  | true => simp only [cond_true]; omega
  | false => simp only [cond_false]; omega
theorem runI_ge (p : Int → Bool) {s : ByteArray} {i : Int} (h : i ≤ s.size) : i ≤ runI p s i ∧ runI p s i ≤ s.size := by
 have := runE_ge p ((s.size : Int) - i).toNat i
 unfold runI
 omega
theorem runI_step {p : Int → Bool} {s : ByteArray} {i j : Int} (hj : runI p s j = runI p s i) (h0 : i ≤ j) (hn : j < s.size) (h : p j = true) : runI p s (j + 1) = runI p s i := by
 rw [← hj]
 unfold runI
 have e : ((s.size : Int) - j).toNat = ((s.size : Int) - (j + 1)).toNat + 1 := by omega
 rw [e, runE, h, cond_true]
theorem runI_at {p : Int → Bool} {s : ByteArray} {j : Int} (h : p j = false) : runI p s j = j := by
 unfold runI
 cases ((s.size : Int) - j).toNat with
 | zero => rfl
 | succ k => rw [runE, h, cond_false]
theorem runI_stop {p : Int → Bool} {s : ByteArray} {i j : Int} (hj : runI p s j = runI p s i) (h0 : i ≤ j) (h : p j = false) : j = runI p s i := by
 rw [← hj, runI_at h]
theorem runI_gt {p : Int → Bool} {s : ByteArray} {i : Int} (hn : i < s.size) (h : p i = true) : i < runI p s i := by
 have := runI_step (p := p) (s := s) (i := i) (j := i) rfl (Int.le_refl _) hn h
 have h2 := runI_ge p (s := s) (i := i + 1) (by omega)
 omega
/-! ### A round -/
def lxJ (s : ByteArray) (i : Int) : Int := (bif (decide ((atF s i) = (3 : Int))) then (runI (nmC s) s i) else (bif (decide ((atF s i) = (4 : Int))) then (runI (dgC s) s i) else (bif (bif (decide ((atF s i) = (6 : Int))) then (decide ((atF s i) = (6 : Int))) else (bif (decide ((atF s i) = (7 : Int))) then (decide ((atF s i) = (7 : Int))) else (decide ((atF s i) = (8 : Int))))) then (bif (((!decide ((atF s i) = (6 : Int))) && (decide (wr (i + 1) < ((s.size : Nat) : Int)))) && (decide (sbyte s (wr (i + 1)) = (61 : Int)))) then wr ((wr (i + 1)) + 1) else wr (i + 1)) else i)))
def lxK (s : ByteArray) (i : Int) : Int := (bif (decide ((atF s i) = (3 : Int))) then 1 else (bif (decide ((atF s i) = (4 : Int))) then 2 else (bif (bif (decide ((atF s i) = (6 : Int))) then (decide ((atF s i) = (6 : Int))) else (bif (decide ((atF s i) = (7 : Int))) then (decide ((atF s i) = (7 : Int))) else (decide ((atF s i) = (8 : Int))))) then 3 else 0)))
def lxN (s : ByteArray) (i : Int) : Int := (bif (decide ((atF s i) = (3 : Int))) then 0 else (bif (decide ((atF s i) = (4 : Int))) then (bif (((decide ((7 : Int) < wr ((runI (dgC s) s i) - i))) || (decide ((atF s (runI (dgC s) s i)) = (3 : Int)))) || (decide ((atF s (runI (dgC s) s i)) = (5 : Int)))) then 0 else (atoiV (s.extract i.toNat (runI (dgC s) s i).toNat))) else 0))
def lxE (s : ByteArray) (i : Int) : Int := (bif (decide ((atF s i) = (3 : Int))) then (bif (decide ((24 : Int) < wr ((runI (nmC s) s i) - i))) then 2 else 0) else (bif (decide ((atF s i) = (4 : Int))) then (bif (((decide ((7 : Int) < wr ((runI (dgC s) s i) - i))) || (decide ((atF s (runI (dgC s) s i)) = (3 : Int)))) || (decide ((atF s (runI (dgC s) s i)) = (5 : Int)))) then 4 else 0) else (bif (bif (decide ((atF s i) = (6 : Int))) then (decide ((atF s i) = (6 : Int))) else (bif (decide ((atF s i) = (7 : Int))) then (decide ((atF s i) = (7 : Int))) else (decide ((atF s i) = (8 : Int))))) then (bif (((!decide ((atF s i) = (6 : Int))) && (decide (wr (i + 1) < ((s.size : Nat) : Int)))) && (decide (sbyte s (wr (i + 1)) = (61 : Int)))) then 0 else (bif (decide ((atF s i) = (8 : Int))) then 3 else 0)) else 3)))
theorem lxJ_ok {s : ByteArray} {i : Int} (h0 : 0 ≤ i) (hn : i < s.size) (hs : ¬ (20000 : Int) < s.size) : i ≤ lxJ s i ∧ lxJ s i ≤ s.size := by
 have h1 := runI_ge (nmC s) (s := s) (i := i) (by omega)
 have h2 := runI_ge (dgC s) (s := s) (i := i) (by omega)
 have w1 : wr (i + 1) = i + 1 := wr_ok (by omega) (by omega)
 have w2 : wr (i + 1 + 1) = i + 1 + 1 := wr_ok (by omega) (by omega)
 unfold lxJ
 rw [w1, w2]
 cases decide (atF s i = 3) with
 | true => exact h1
 | false =>
  simp only [cond_false]
  cases decide (atF s i = 4) with
  | true => exact h2
  | false =>
   simp only [cond_false]
   cases (bif decide (atF s i = 6) then decide (atF s i = 6) else bif decide (atF s i = 7) then decide (atF s i = 7) else decide (atF s i = 8)) with
   | false => simp only [cond_false]; omega
   | true =>
    simp only [cond_true]
    by_cases e : (i + 1 < (s.size : Int))
    ·cases ((!decide (atF s i = 6)) && decide (i + 1 < (s.size : Int))) && decide (sbyte s (i + 1) = 61) with
     | true => simp only [cond_true]; omega
     | false => simp only [cond_false]; omega
    ·rw [decide_eq_false e]
     simp only [Bool.and_false, Bool.false_and, cond_false]; omega
theorem lxJ_lt {s : ByteArray} {i : Int} (h0 : 0 ≤ i) (hn : i < s.size) (hs : ¬ (20000 : Int) < s.size) (he : (!decide (lxE s i = (0 : Int))) = false) : i < lxJ s i := by
 have w1 : wr (i + 1) = i + 1 := wr_ok (by omega) (by omega)
 have w2 : wr (i + 1 + 1) = i + 1 + 1 := wr_ok (by omega) (by omega)
 rw [Bool.not_eq_false', decide_eq_true_eq] at he
 unfold lxE at he
 unfold lxJ
 rw [w1] at he
 rw [w1, w2]
 cases h3 : decide (atF s i = 3) with
 | true =>
  simp only [cond_true]
  exact runI_gt hn (by unfold nmC; rw [h3]; rfl)
 | false =>
  rw [h3] at he
  simp only [cond_false] at he ⊢
  cases h4 : decide (atF s i = 4) with
  | true =>
   simp only [cond_true]
   exact runI_gt hn h4
  | false =>
   rw [h4] at he
   simp only [cond_false] at he ⊢
   cases h5 : (bif decide (atF s i = 6) then decide (atF s i = 6) else bif decide (atF s i = 7) then decide (atF s i = 7) else decide (atF s i = 8)) with
   | false => rw [h5] at he; cases he
   | true =>
    simp only [cond_true]
    cases ((!decide (atF s i = 6)) && decide (i + 1 < (s.size : Int))) && decide (sbyte s (i + 1) = 61) with
    | true => simp only [cond_true]; omega
    | false => simp only [cond_false]; omega
/-! ### A number's digits -/
theorem extract_size (s : ByteArray) {i j : Int} (h0 : 0 ≤ i) (h1 : i ≤ j) (h2 : j ≤ s.size) : (((s.extract i.toNat j.toNat).size : Nat) : Int) = j - i := by
 rw [ByteArray.size_extract]; omega
theorem extract_byte (s : ByteArray) {i j : Int} (h0 : 0 ≤ i) (h1 : i ≤ j) (h2 : j ≤ s.size) (k : Nat) (hk : (k : Int) < j - i) : sbyte (s.extract i.toNat j.toNat) (k : Int) = sbyte s (i + k) := by
 have hsz : s.size = s.data.toList.length := by simp
 unfold sbyte
 have e : (s.extract i.toNat j.toNat).data.toList = (s.data.toList.drop i.toNat).take (j.toNat - i.toNat) := by
  rw [ByteArray.data_extract, Array.toList_extract, List.extract_eq_take_drop]
 rw [e]
 simp only [List.getD_eq_getElem?_getD]
 rw [List.getElem?_take, List.getElem?_drop]
 have e2 : i.toNat + ((k : Nat) : Int).toNat = (i + k).toNat := by omega
 rw [if_pos (by omega), e2]
theorem run_all (p : Int → Bool) : ∀ (k : Nat) (i j : Int), i ≤ j → j < runE p k i → p j = true
 | 0, i, j, h1, h2 => by simp [runE] at h2; omega
 | k + 1, i, j, h1, h2 => by
  unfold runE at h2
  cases h : p i with
  | false => rw [h, cond_false] at h2; omega
  | true =>
   rw [h, cond_true] at h2
   by_cases e : i = j
   ·subst e; exact h
   ·exact run_all p k (i + 1) j (by omega) h2
theorem digit_byte {s : ByteArray} {j : Int} (h0 : 0 ≤ j) (h : dgC s j = true) : 48 ≤ sbyte s j ∧ sbyte s j ≤ 57 := by
 unfold dgC at h
 have hlt := atF_lt (s := s) (j := j) (fun e => by rw [e] at h; cases h)
 have hle : ¬ (s.size : Int) ≤ j := by omega
 unfold atF at h
 rw [decide_eq_false hle, cond_false, decide_eq_true_eq] at h
 have hb := sbyte_lt s j
 have key : ∀ n : Fin 256, clsL.getD n.val 0 = 4 → 48 ≤ n.val ∧ n.val ≤ 57 := by decide +kernel
 have := key ⟨(sbyte s j).toNat, by omega⟩ h
 simp only at this
 omega
theorem atoi_1 {s : ByteArray} {i : Int} (h0 : 0 ≤ i) (hn : i < s.size) (h4 : decide (atF s i = 4) = true) : 1 ≤ (s.extract i.toNat (runI (dgC s) s i).toNat).size := by
 have h1 := runI_ge (dgC s) (s := s) (i := i) (by omega)
 have h2 := runI_gt (p := dgC s) hn h4
 have := extract_size s h0 h1.1 h1.2
 omega
theorem atoi_2 {s : ByteArray} {i : Int} {a b : Bool} (h0 : 0 ≤ i) (hn : i < s.size) (hs : ¬ (20000 : Int) < s.size) (h : ((decide ((7 : Int) < wr ((runI (dgC s) s i) - i)) || a) || b) = false) : (s.extract i.toNat (runI (dgC s) s i).toNat).size ≤ 18 := by
 have h1 := runI_ge (dgC s) (s := s) (i := i) (by omega)
 have := extract_size s h0 h1.1 h1.2
 rw [Bool.or_eq_false_iff, Bool.or_eq_false_iff, decide_eq_false_iff_not, wr_ok (by omega) (by omega)] at h
 omega
theorem atoi_3 {s : ByteArray} {i : Int} (h0 : 0 ≤ i) (hn : i < s.size) (h4 : decide (atF s i = 4) = true) : ∀ k : Nat, k < (s.extract i.toNat (runI (dgC s) s i).toNat).size → 48 ≤ sbyte (s.extract i.toNat (runI (dgC s) s i).toNat) ((k : Nat) : Int) ∧ sbyte (s.extract i.toNat (runI (dgC s) s i).toNat) ((k : Nat) : Int) ≤ 57 := by
 intro k hk
 have h1 := runI_ge (dgC s) (s := s) (i := i) (by omega)
 have h2 := extract_size s h0 h1.1 h1.2
 rw [extract_byte s h0 h1.1 h1.2 k (by omega)]
 exact digit_byte (by omega) (run_all (dgC s) _ i (i + k) (by omega) (by show (i + k : Int) < runI (dgC s) s i; omega))
/-! ### All rounds -/
def lexG (s : ByteArray) (i : Int) (out : List Tk) : List Tk × Int × Int :=
 if h : i < s.size then
  if decide (atF s i = 1) = true then lexG s (i + 1) out
  else if decide (atF s i = 2) = true then (if h2 : i < runI (hsC s) s i then lexG s (runI (hsC s) s i) out else (out, 0, 0))
  else if (!decide (lxE s i = 0)) = true then ([], lxE s i, i)
  else if decide ((out.length : Int) = 5000) = true then ([], 2, i)
  else if h2 : i < lxJ s i then lexG s (lxJ s i) (out ++ [⟨lxK s i, s.extract i.toNat (lxJ s i).toNat, lxN s i, i⟩]) else (out, 0, 0)
 else (out, 0, 0)
termination_by ((s.size : Int) - i).toNat
decreasing_by all_goals omega
section
variable {s : ByteArray} {i : Int} {out : List Tk}
theorem lex_end (h : ¬ i < s.size) : lexG s i out = (out, 0, 0) := by rw [lexG, dif_neg h]
theorem lex_1 (h : i < s.size) (h1 : decide (atF s i = 1) = true) : lexG s i out = lexG s (i + 1) out := by rw [lexG, dif_pos h, if_pos h1]
theorem lex_2 (h : i < s.size) (h1 : decide (atF s i = 1) = false) (h2 : decide (atF s i = 2) = true) (h3 : i < runI (hsC s) s i) : lexG s i out = lexG s (runI (hsC s) s i) out := by
 rw [lexG, dif_pos h, if_neg (by rw [h1]; decide), if_pos h2, dif_pos h3]
theorem lex_err (h : i < s.size) (h1 : decide (atF s i = 1) = false) (h2 : decide (atF s i = 2) = false) (h3 : (!decide (lxE s i = 0)) = true) : lexG s i out = ([], lxE s i, i) := by
 rw [lexG, dif_pos h, if_neg (by rw [h1]; decide), if_neg (by rw [h2]; decide), if_pos h3]
theorem lex_full (h : i < s.size) (h1 : decide (atF s i = 1) = false) (h2 : decide (atF s i = 2) = false) (h3 : (!decide (lxE s i = 0)) = false) (h4 : decide ((out.length : Int) = 5000) = true) : lexG s i out = ([], 2, i) := by
 rw [lexG, dif_pos h, if_neg (by rw [h1]; decide), if_neg (by rw [h2]; decide), if_neg (by rw [h3]; decide), if_pos h4]
theorem lex_tok (h : i < s.size) (h1 : decide (atF s i = 1) = false) (h2 : decide (atF s i = 2) = false) (h3 : (!decide (lxE s i = 0)) = false) (h4 : decide ((out.length : Int) = 5000) = false) (h5 : i < lxJ s i) :
  lexG s i out = lexG s (lxJ s i) (out ++ [⟨lxK s i, s.extract i.toNat (lxJ s i).toNat, lxN s i, i⟩]) := by
 rw [lexG, dif_pos h, if_neg (by rw [h1]; decide), if_neg (by rw [h2]; decide), if_neg (by rw [h3]; decide), if_neg (by rw [h4]; decide), dif_pos h5]
/-- What holds between two rounds. -/
def lexI (s : ByteArray) (i : Int) (out : List Tk) : Prop := 0 ≤ i ∧ i ≤ s.size ∧ lexG s i out = lexG s 0 [] ∧ out.length ≤ 5000
theorem keep_1 (hI : lexI s i out) (hs : ¬ (20000 : Int) < s.size) (h : i < s.size) (h1 : decide (atF s i = 1) = true) : lexI s (wr (i + 1)) out := by
 obtain ⟨a, b, c, d⟩ := hI
 rw [wr_ok (by omega) (by omega)]
 exact ⟨by omega, by omega, by rw [← c, lex_1 h h1], d⟩
theorem hash_gt (h : i < s.size) (h2 : decide (atF s i = 2) = true) (h0 : 0 ≤ i) : i < runI (hsC s) s i := by
 refine runI_gt h ?_
 unfold hsC
 rw [Bool.and_eq_true]
 refine ⟨decide_eq_true h, ?_⟩
 rw [Bool.not_eq_true', decide_eq_false_iff_not]
 intro e
 rw [decide_eq_true_eq] at h2
 unfold atF at h2
 rw [e, decide_eq_false (by omega)] at h2
 revert h2
 decide
theorem keep_2 (hI : lexI s i out) (h : i < s.size) (h1 : decide (atF s i = 1) = false) (h2 : decide (atF s i = 2) = true) : lexI s (runI (hsC s) s i) out := by
 obtain ⟨a, b, c, d⟩ := hI
 have := runI_ge (hsC s) (s := s) (i := i) b
 exact ⟨by omega, by omega, by rw [← c, lex_2 h h1 h2 (hash_gt h h2 a)], d⟩
theorem keep_3 (hI : lexI s i out) (hs : ¬ (20000 : Int) < s.size) (h : i < s.size) (h1 : decide (atF s i = 1) = false) (h2 : decide (atF s i = 2) = false) (h3 : (!decide (lxE s i = 0)) = false) (h4 : decide ((out.length : Int) = 5000) = false) :
  lexI s (lxJ s i) (out ++ [⟨lxK s i, s.extract i.toNat (lxJ s i).toNat, lxN s i, i⟩]) := by
 obtain ⟨a, b, c, d⟩ := hI
 have := lxJ_ok a h hs
 refine ⟨by omega, by omega, by rw [← c, lex_tok h h1 h2 h3 h4 (lxJ_lt a h hs h3)], ?_⟩
 rw [decide_eq_false_iff_not] at h4
 simp
 omega
theorem lex_out (hI : lexI s i out) (h : ¬ i < s.size) : out = (lexG s 0 []).1 ∧ (lexG s 0 []).2.1 = 0 := by
 obtain ⟨a, b, c, d⟩ := hI
 rw [← c, lex_end h]; exact ⟨rfl, rfl⟩
end
theorem lex_nil (s : ByteArray) : ∀ (k : Nat) (i : Int) (out : List Tk), ((s.size : Int) - i).toNat ≤ k → (¬ (lexG s i out).2.1 = 0 → (lexG s i out).1 = []) ∧ ((lexG s i out).2.1 = 0 → (lexG s i out).2.2 = 0) := by
 intro k
 induction k with
 | zero => intro i out h; rw [lex_end (by omega)]; exact ⟨fun h => absurd rfl h, fun _ => rfl⟩
 | succ k ih =>
  intro i out h
  rw [lexG]
  split
  ·rename_i hn
   split
   ·exact ih _ _ (by omega)
   ·split
    ·split
     ·exact ih _ _ (by omega)
     ·exact ⟨fun h => absurd rfl h, fun _ => rfl⟩
    ·split
     ·rename_i h3
      refine ⟨fun _ => rfl, fun h4 => ?_⟩
      rw [Bool.not_eq_true', decide_eq_false_iff_not] at h3
      exact absurd h4 h3
     ·split
      ·exact ⟨fun _ => rfl, fun h4 => absurd (show (2 : Int) = 0 from h4) (by decide)⟩
      ·split
       ·exact ih _ _ (by omega)
       ·exact ⟨fun h => absurd rfl h, fun _ => rfl⟩
  ·exact ⟨fun h => absurd rfl h, fun _ => rfl⟩
def lexF (s : ByteArray) : List Tk × Int × Int := bif decide ((20000 : Int) < ((s.size : Nat) : Int)) then ([], 2, -1) else lexG s 0 []
end Go.Proofs.YtphmhelkojdlaaaDoor
namespace Go.Proofs.YtphmhelkojdlaaaDoor
open Go.RowKit
set_option maxRecDepth 10000
set_option linter.unusedSimpArgs false
set_option linter.unusedVariables false
noncomputable abbrev b95_1 : Id × AO := ([11], .loop [(1000000, .any), (2, .ptr [0] 0), (3, .ptr [1] 0), (4, .ptr [2] 0), (5, .ptr [6] 0), (11, .fn (.func 100) [.ptr [0, 8] 0, .ptr [6, 8] 0])] 35 [12] (fcode Tryd.f95 [1, 1, 1, 0, 1, 1, 0]) (fcode Tryd.f95 [1, 1, 1, 0, 1, 1, 1]) .ready none)
noncomputable abbrev b95_2 : Id × AO := ([6, 8], .row [.fn (.func 99) [.ptr [0, 8] 0, .ptr [3, 8] 0]] false)
noncomputable abbrev b95_3 (s : ByteArray) (i : Int) : Id × AO := ([10, 1, 12], .row [.i (lxK s i), .tv (.str (s.extract i.toNat (lxJ s i).toNat)), .i (lxN s i), .i i, .i (lxE s i)] false)
noncomputable abbrev b95_4 : Id × AO := ([3, 8], .row (flat (encK .u8) clsL) false)
noncomputable abbrev b95_5 (out : (List Tk)) : Id × AO := ([6], .row [.sl [0, 1, 12] 4 0 out.length] false)
noncomputable abbrev b95_6 (i : Int) : Id × AO := ([10, 1, 12], .row [.i 0, .tv (.str ⟨#[]⟩), .i 0, .i i, .i 0] false)
noncomputable abbrev b95_7 (out : (List Tk)) : Id × AO := ([0, 1, 12], .row (flat celT out) false)
noncomputable abbrev b95_8 : Id × AO := ([11], .loop [(1000000, .any), (2, .ptr [0] 0), (3, .ptr [1] 0), (4, .ptr [2] 0), (5, .ptr [6] 0), (11, .fn (.func 100) [.ptr [0, 8] 0, .ptr [6, 8] 0])] 35 [12] (fcode Tryd.f95 [1, 1, 1, 0, 1, 1, 0]) (fcode Tryd.f95 [1, 1, 1, 0, 1, 1, 1]) .busy none)
noncomputable abbrev b95_9 (s : ByteArray) (i : Int) : Id × AO := ([0, 66, 1, 12], .row [.i (lxK s i), .tv (.str (s.extract i.toNat (lxJ s i).toNat)), .i (lxN s i), .i i, .i (lxE s i)] false)
noncomputable abbrev b95_10 : Id × AO := ([11], .loop [(1000000, .any), (2, .ptr [0] 0), (3, .ptr [1] 0), (4, .ptr [2] 0), (5, .ptr [6] 0), (11, .fn (.func 100) [.ptr [0, 8] 0, .ptr [6, 8] 0])] 35 [12] (fcode Tryd.f95 [1, 1, 1, 0, 1, 1, 0]) (fcode Tryd.f95 [1, 1, 1, 0, 1, 1, 1]) .done (some .ret))
noncomputable abbrev b95_11 (i : Int) : Id × AO := ([10, 1, 12], .row [.i 3, .tv (.str ⟨#[]⟩), .i 0, .i i, .i 0] false)
noncomputable abbrev b95_12 (out : (List Tk)) (s : ByteArray) (i : Int) : Id × AO := ([6], .row [.sl [14, 66, 1, 12] 4 0 (out ++ [(Tk.mk (lxK s i) (s.extract i.toNat (lxJ s i).toNat) (lxN s i) i)]).length] false)
noncomputable abbrev b95_13 (i : Int) : Id × AO := ([10, 1, 12], .row [.i 2, .tv (.str ⟨#[]⟩), .i 0, .i i, .i 0] false)
noncomputable abbrev b95_14 (out : (List Tk)) (s : ByteArray) (i : Int) : Id × AO := ([14, 66, 1, 12], .row (flat celT (out ++ [(Tk.mk (lxK s i) (s.extract i.toNat (lxJ s i).toNat) (lxN s i) i)])) false)
noncomputable abbrev b95_15 : Id × AO := ([1], .row (flat (encK .u8) clsL) false)
noncomputable abbrev b95_16 (i : Int) : Id × AO := ([10, 1, 12], .row [.i 1, .tv (.str ⟨#[]⟩), .i 0, .i i, .i 0] false)
noncomputable abbrev b95_17 (s : ByteArray) : Id × AO := ([6], .row [.sl [1000, 1, 12] 4 0 ((lexG s 0 []).1.length)] false)
noncomputable abbrev b95_18 (s : ByteArray) (i : Int) : Id × AO := ([1], .row [.i (lxE s i)] false)
noncomputable abbrev b95_19 (s : ByteArray) (i : Int) : Id × AO := ([10, 1, 12], .row [.i 2, .tv (.str ⟨#[]⟩), .i (atoiV (s.extract i.toNat (runI (dgC s) s i).toNat)), .i i, .i 0] false)
noncomputable abbrev b95_20 (s : ByteArray) : Id × AO := ([1000, 1, 12], .row (flat celT ((lexG s 0 []).1)) false)
noncomputable abbrev b95_21 (s : ByteArray) : Id × AO := ([2], .row [.i ((lexG s 0 []).2.2)] false)
noncomputable abbrev b95_22 (s : ByteArray) : Id × AO := ([1], .row [.i ((lexG s 0 []).2.1)] false)
noncomputable abbrev b95_23 (i : Int) (out : (List Tk)) (s : ByteArray) : Hp := [(b95_6 i), (b95_7 out), b95_1, ([10], .dfr), b95_2, b95_4, ([0, 8], .row [.tv (.str s)] false), (b95_5 out), ([2], .row [.i 0] false), ([1], .row [.i 0] false), ([0], .row [.tv .nils] false)]
noncomputable abbrev b95_24 (s : ByteArray) (i : Int) (out : (List Tk)) : Hp := [(b95_9 s i), (b95_3 s i), (b95_7 out), b95_8, ([10], .dfr), b95_2, b95_4, ([0, 8], .row [.tv (.str s)] false), (b95_5 out), ([2], .row [.i 0] false), ([1], .row [.i 0] false), ([0], .row [.tv .nils] false)]
noncomputable abbrev b95_25 (s : ByteArray) (i : Int) (out : (List Tk)) : Hp := [(b95_3 s i), (b95_7 out), b95_1, ([10], .dfr), b95_2, b95_4, ([0, 8], .row [.tv (.str s)] false), (b95_5 out), ([2], .row [.i 0] false), ([1], .row [.i 0] false), ([0], .row [.tv .nils] false)]
noncomputable abbrev b95_26 (i : Int) (out : (List Tk)) (s : ByteArray) : Hp := [(b95_11 i), (b95_7 out), b95_1, ([10], .dfr), b95_2, b95_4, ([0, 8], .row [.tv (.str s)] false), (b95_5 out), ([2], .row [.i 0] false), ([1], .row [.i 0] false), ([0], .row [.tv .nils] false)]
noncomputable abbrev b95_27 (i : Int) (out : (List Tk)) (s : ByteArray) : Hp := [(b95_13 i), (b95_7 out), b95_1, ([10], .dfr), b95_2, b95_4, ([0, 8], .row [.tv (.str s)] false), (b95_5 out), ([2], .row [.i 0] false), ([1], .row [.i 0] false), ([0], .row [.tv .nils] false)]
noncomputable abbrev b95_28 (out : (List Tk)) (s : ByteArray) : Hp := [(b95_7 out), b95_1, ([10], .dfr), b95_2, b95_4, ([0, 8], .row [.tv (.str s)] false), (b95_5 out), ([2], .row [.i 0] false), ([1], .row [.i 0] false), ([0], .row [.tv .nils] false)]
noncomputable abbrev b95_29 (s : ByteArray) (i : Int) (out : (List Tk)) : Hp := [(b95_9 s i), (b95_3 s i), (b95_7 out), b95_1, ([10], .dfr), b95_2, b95_4, ([0, 8], .row [.tv (.str s)] false), (b95_5 out), ([2], .row [.i 0] false), ([1], .row [.i 0] false), ([0], .row [.tv .nils] false)]
noncomputable abbrev b95_30 (out : (List Tk)) (s : ByteArray) (i : Int) : Hp := [(b95_14 out s i), (b95_3 s i), b95_1, ([10], .dfr), b95_2, b95_4, ([0, 8], .row [.tv (.str s)] false), (b95_12 out s i), ([2], .row [.i 0] false), ([1], .row [.i 0] false), ([0], .row [.tv .nils] false)]
noncomputable abbrev b95_31 (s : ByteArray) (i : Int) (out : (List Tk)) : Hp := [(b95_3 s i), (b95_7 out), b95_10, ([10], .dfr), b95_2, b95_4, ([0, 8], .row [.tv (.str s)] false), (b95_5 out), ([2], .row [.i i] false), ([1], .row [.i 2] false), ([0], .row [.tv .nils] false)]
noncomputable abbrev b95_32 (s : ByteArray) (i : Int) (out : (List Tk)) : Hp := [(b95_3 s i), (b95_7 out), b95_10, ([10], .dfr), b95_2, b95_4, ([0, 8], .row [.tv (.str s)] false), (b95_5 out), ([2], .row [.i i] false), (b95_18 s i), ([0], .row [.tv .nils] false)]
noncomputable abbrev b95_33 (s : ByteArray) : Hp := [([0, 8], .row [.tv (.str s)] false), b95_4]
noncomputable abbrev b95_34 (i : Int) (out : (List Tk)) (s : ByteArray) : Hp := [(b95_16 i), (b95_7 out), b95_1, ([10], .dfr), b95_2, b95_4, ([0, 8], .row [.tv (.str s)] false), (b95_5 out), ([2], .row [.i 0] false), ([1], .row [.i 0] false), ([0], .row [.tv .nils] false)]
noncomputable abbrev b95_35 (out : (List Tk)) (s : ByteArray) (i : Int) : Hp := [([0, 1, 12], .row (flat celT (out ++ [(Tk.mk (lxK s i) (s.extract i.toNat (lxJ s i).toNat) (lxN s i) i)])) false), b95_1, ([10], .dfr), b95_2, b95_4, ([0, 8], .row [.tv (.str s)] false), ([6], .row [.sl [0, 1, 12] 4 0 (out ++ [(Tk.mk (lxK s i) (s.extract i.toNat (lxJ s i).toNat) (lxN s i) i)]).length] false), ([2], .row [.i 0] false), ([1], .row [.i 0] false), ([0], .row [.tv .nils] false)]
noncomputable abbrev b95_36 (s : ByteArray) (i : Int) (out : (List Tk)) : Hp := [([10, 1, 12], .row [.i (lxK s i), .tv (.str ⟨#[]⟩), .i (lxN s i), .i i, .i (lxE s i)] false), (b95_7 out), b95_1, ([10], .dfr), b95_2, b95_4, ([0, 8], .row [.tv (.str s)] false), (b95_5 out), ([2], .row [.i 0] false), ([1], .row [.i 0] false), ([0], .row [.tv .nils] false)]
noncomputable abbrev b95_37 (i : Int) (out : (List Tk)) (s : ByteArray) : Hp := [([10, 1, 12], .row [.i 1, .tv (.str ⟨#[]⟩), .i 0, .i i, .i 2] false), (b95_7 out), b95_1, ([10], .dfr), b95_2, b95_4, ([0, 8], .row [.tv (.str s)] false), (b95_5 out), ([2], .row [.i 0] false), ([1], .row [.i 0] false), ([0], .row [.tv .nils] false)]
noncomputable abbrev b95_38 (i : Int) (out : (List Tk)) (s : ByteArray) : Hp := [([10, 1, 12], .row [.i 2, .tv (.str ⟨#[]⟩), .i 0, .i i, .i 4] false), (b95_7 out), b95_1, ([10], .dfr), b95_2, b95_4, ([0, 8], .row [.tv (.str s)] false), (b95_5 out), ([2], .row [.i 0] false), ([1], .row [.i 0] false), ([0], .row [.tv .nils] false)]
noncomputable abbrev b95_39 (i : Int) (out : (List Tk)) (s : ByteArray) : Hp := [([10, 1, 12], .row [.i 3, .tv (.str ⟨#[]⟩), .i 0, .i i, .i 3] false), (b95_7 out), b95_1, ([10], .dfr), b95_2, b95_4, ([0, 8], .row [.tv (.str s)] false), (b95_5 out), ([2], .row [.i 0] false), ([1], .row [.i 0] false), ([0], .row [.tv .nils] false)]
noncomputable abbrev b95_40 (i : Int) (out : (List Tk)) (s : ByteArray) : Hp := [([10, 1, 12], .row [.i 0, .tv (.str ⟨#[]⟩), .i 0, .i i, .i 3] false), (b95_7 out), b95_1, ([10], .dfr), b95_2, b95_4, ([0, 8], .row [.tv (.str s)] false), (b95_5 out), ([2], .row [.i 0] false), ([1], .row [.i 0] false), ([0], .row [.tv .nils] false)]
noncomputable abbrev b95_41 (s : ByteArray) : Hp := [([0], .row [.tv (.str s)] false), b95_15]
noncomputable abbrev b95_42 (out : (List Tk)) (s : ByteArray) (i : Int) : Hp := [(b95_14 out s i), (b95_9 s i), (b95_3 s i), b95_8, ([10], .dfr), b95_2, b95_4, ([0, 8], .row [.tv (.str s)] false), (b95_12 out s i), ([2], .row [.i 0] false), ([1], .row [.i 0] false), ([0], .row [.tv .nils] false)]
noncomputable abbrev b95_43 (s : ByteArray) (i : Int) (out : (List Tk)) : Hp := [(b95_9 s i), (b95_3 s i), (b95_7 out), b95_8, ([10], .dfr), b95_2, b95_4, ([0, 8], .row [.tv (.str s)] false), (b95_5 out), ([2], .row [.i i] false), ([1], .row [.i 2] false), ([0], .row [.tv .nils] false)]
noncomputable abbrev b95_44 (s : ByteArray) (i : Int) (out : (List Tk)) : Hp := [(b95_19 s i), (b95_7 out), b95_1, ([10], .dfr), b95_2, b95_4, ([0, 8], .row [.tv (.str s)] false), (b95_5 out), ([2], .row [.i 0] false), ([1], .row [.i 0] false), ([0], .row [.tv .nils] false)]
noncomputable abbrev b95_45 : Hp := [([6], .row [.tv .nils] false), ([2], .row [.i 0] false), ([1], .row [.i 0] false), ([0], .row [.tv .nils] false)]
noncomputable abbrev b95_46 (s : ByteArray) (i : Int) (out : (List Tk)) : Hp := [(b95_9 s i), (b95_3 s i), (b95_7 out), b95_8, ([10], .dfr), b95_2, b95_4, ([0, 8], .row [.tv (.str s)] false), (b95_5 out), ([2], .row [.i i] false), (b95_18 s i), ([0], .row [.tv .nils] false)]
noncomputable abbrev b95_47 (s : ByteArray) : Hp := [(b95_20 s), b95_1, ([10], .dfr), b95_2, b95_4, ([0, 8], .row [.tv (.str s)] false), (b95_17 s), ([2], .row [.i 0] false), ([1], .row [.i 0] false), ([0], .row [.tv .nils] false)]
noncomputable abbrev b95_48 : Hp := [([2], .row [.i (-1)] false), ([1], .row [.i 2] false), ([0], .row [.tv .nils] false)]
noncomputable abbrev b95_49 (s : ByteArray) : Hp := [b95_2, b95_4, ([0, 8], .row [.tv (.str s)] false), ([6], .row [.tv .nils] false), ([2], .row [.i 0] false), ([1], .row [.i 0] false), ([0], .row [.tv .nils] false)]
noncomputable abbrev b95_50 (s : ByteArray) : Hp := [b95_1, ([10], .dfr), ([9], .row [] false), b95_2, b95_4, ([0, 8], .row [.tv (.str s)] false), ([6], .row [.sl [9] 4 0 0] false), ([2], .row [.i 0] false), ([1], .row [.i 0] false), ([0], .row [.tv .nils] false)]
noncomputable abbrev b95_51 (s : ByteArray) : Hp := [b95_1, ([10], .dfr), ([0, 1, 12], .row [] false), b95_2, b95_4, ([0, 8], .row [.tv (.str s)] false), ([6], .row [.sl [0, 1, 12] 4 0 0] false), ([2], .row [.i 0] false), ([1], .row [.i 0] false), ([0], .row [.tv .nils] false)]
theorem c95 (s : ByteArray)  : PureCall Tryd.prog 95 [.tv (.str s)] (.tup [.tv (.sli 4 (((lexF s).1).map celT)), .i ((lexF s).2.1), .i ((lexF s).2.2)]) := by
 refine walk0 (fn := Tryd.f95) [.cell 2 114, .cell 3 36, .cell 4 3] Tryd.func95 rfl (by kernel_rfl) rfl (by kernel_rfl) (by kernel_rfl) ?_
 change AT _ _ _ ⟨[(0, .tv (.str s))], [], [], 0⟩
 refine at_B [0, 2, 3, 4] [] [] [(1000000, .any), (0, .tv (.str s)), (2, .ptr [0] 0), (3, .ptr [1] 0), (4, .ptr [2] 0)] [([2], .row [.i 0] false), ([1], .row [.i 0] false), ([0], .row [.tv .nils] false)] 3 (by kernel_rfl) ?_ ?_
 ·exact trivial
 refine at_seq ?_
 refine at_B [0, 2, 3, 4, 9] [] [] [(1000000, .any), (0, .tv (.str s)), (2, .ptr [0] 0), (3, .ptr [1] 0), (4, .ptr [2] 0), (9, .b (decide ((20000 : Int) < ((s.size : Nat) : Int))))] [([2], .row [.i 0] false), ([1], .row [.i 0] false), ([0], .row [.tv .nils] false)] 6 (by kernel_rfl) ?_ ?_
 ·exact trivial
 refine at_cond (b := (decide ((20000 : Int) < ((s.size : Nat) : Int)))) rfl rfl (fun hc9 => ?_) (fun hc9 => ?_)
 ·have q9 := hc9
  (try simp only [brs] at q9)
  refine at_B [2, 3, 4] [] [] [(1000000, .any), (2, .ptr [0] 0), (3, .ptr [1] 0), (4, .ptr [2] 0)] b95_48 9 (by kernel_rfl) ?_ ?_
  ·exact trivial
  refine at_ret ?_
  refine fin0 (.inr rfl) (.tup [.tv .nils, .i 2, .i (-1)]) b95_48 (.tup [.tv .nils, .i 2, .i (-1)]) (H2 := b95_48) (by kernel_rfl) (by kernel_rfl) ?_
  refine Le.trans (b := .tup [.tv (.sli 4 (([] : List _).map celT)), .i 2, .i (-1)]) (Le.tup (.cons (Le.nils 4) (.cons (Le.refl _) (.cons (Le.refl _) .nil)))) (Le.of_eq ?_)
  rw [lexF, hc9]; rfl
 ·have q9 := hc9
  (try simp only [brs] at q9)
  refine at_skip ?_
  change AT _ _ _ _
  refine at_B [0, 2, 3, 4, 5] [] [] [(1000000, .any), (0, .tv (.str s)), (2, .ptr [0] 0), (3, .ptr [1] 0), (4, .ptr [2] 0), (5, .ptr [6] 0)] b95_45 7 (by kernel_rfl) ?_ ?_
  ·exact trivial
  refine at_seq ?_
  refine at_B [2, 3, 4, 5, 11] [.std, .retH (.fn (.func 100) [.ptr [0, 8] 0, .ptr [6, 8] 0]) (b95_49 s)] [CallOK Tryd.prog 97 [.tv (.str s)] b95_45 [8] (fun v1 H1 => v1 = (.fn (.func 100) [.ptr [0, 8] 0, .ptr [6, 8] 0]) ∧ H1 = (b95_49 s))] [(1000000, .any), (2, .ptr [0] 0), (3, .ptr [1] 0), (4, .ptr [2] 0), (5, .ptr [6] 0), (11, .fn (.func 100) [.ptr [0, 8] 0, .ptr [6, 8] 0])] (b95_49 s) 9 (by kernel_rfl) ?_ ?_
  ·refine ⟨?_, trivial⟩
   ·refine call_in (fn := Tryd.f97) [.tmp 2] Tryd.func97 rfl (by kernel_rfl) rfl ?_
    change AT _ _ _ ⟨[(0, .tv (.str s))], b95_45, [8], 0⟩
    refine at_B [1] [] [] [(1000000, .any), (1, .ptr [0, 8] 0)] [([0, 8], .row [.tv (.str s)] false), ([6], .row [.tv .nils] false), ([2], .row [.i 0] false), ([1], .row [.i 0] false), ([0], .row [.tv .nils] false)] 2 (by kernel_rfl) ?_ ?_
    ·exact trivial
    refine at_B [1, 3] [.ret (.agg (flat (encK .u8) clsL))] [PureCall Tryd.prog 98 [] (.agg (flat (encK .u8) clsL))] [(1000000, .any), (1, .ptr [0, 8] 0), (3, .ptr [3, 8] 0)] [b95_4, ([0, 8], .row [.tv (.str s)] false), ([6], .row [.tv .nils] false), ([2], .row [.i 0] false), ([1], .row [.i 0] false), ([0], .row [.tv .nils] false)] 5 (by kernel_rfl) ?_ ?_
    ·exact ⟨(c98), trivial⟩
    refine at_B [1, 4] [] [] [(1000000, .any), (1, .ptr [0, 8] 0), (4, .ptr [6, 8] 0)] (b95_49 s) 8 (by kernel_rfl) ?_ ?_
    ·exact trivial
    refine at_B [2] [] [] [(1000000, .any), (2, .fn (.func 100) [.ptr [0, 8] 0, .ptr [6, 8] 0])] (b95_49 s) 10 (by kernel_rfl) ?_ ?_
    ·exact trivial
    refine at_ret ?_
    exact fin_in (.inr rfl) [[6, 8], [3, 8], [0, 8], [6], [2], [1], [0]] (.fn (.func 100) [.ptr [0, 8] 0, .ptr [6, 8] 0]) (b95_49 s) (by kernel_rfl) rfl (by kernel_rfl)
  refine at_block ?_
  refine at_keepB [2, 3, 4, 5, 11] [(1000000, .any), (2, .ptr [0] 0), (3, .ptr [1] 0), (4, .ptr [2] 0), (5, .ptr [6] 0), (11, .fn (.func 100) [.ptr [0, 8] 0, .ptr [6, 8] 0])] (by kernel_rfl) ?_
  refine at_pre (Gh.ownc [6] 0 4 _ false rfl rfl) ?_
  change AT _ _ _ ⟨[(1000000, .any), (2, .ptr [0] 0), (3, .ptr [1] 0), (4, .ptr [2] 0), (5, .ptr [6] 0), (11, .fn (.func 100) [.ptr [0, 8] 0, .ptr [6, 8] 0])], [([9], .row [] false), b95_2, b95_4, ([0, 8], .row [.tv (.str s)] false), ([6], .row [.sl [9] 4 0 0] false), ([2], .row [.i 0] false), ([1], .row [.i 0] false), ([0], .row [.tv .nils] false)], [], 10⟩
  cases hs1 : ((decide ((lexG s 0 []).2.1 = (0 : Int))))
  ·have qhs1 := hs1
   refine at_rf_ret 100 [.ptr [0, 8] 0, .ptr [6, 8] 0] (.tup []) [b95_10, ([10], .dfr), b95_2, b95_4, ([0, 8], .row [.tv (.str s)] false), (b95_21 s), (b95_22 s), ([0], .row [.tv .nils] false)] [(1000000, .any), (2, .ptr [0] 0), (3, .ptr [1] 0), (4, .ptr [2] 0), (5, .ptr [6] 0), (11, .fn (.func 100) [.ptr [0, 8] 0, .ptr [6, 8] 0])] 35 [12] (fcode Tryd.f95 [1, 1, 1, 0, 1, 1, 0]) (fcode Tryd.f95 [1, 1, 1, 0, 1, 1, 1]) [2, 3, 4, 5, 11] [[10], [6, 8], [3, 8], [0, 8], [2], [1], [0]] [(1000000, .ds [.ptr [10] 0]), (2, .ptr [0] 0), (3, .ptr [1] 0), (4, .ptr [2] 0), (5, .ptr [6] 0), (11, .fn (.func 100) [.ptr [0, 8] 0, .ptr [6, 8] 0])] [([10], .dfr), b95_2, b95_4, ([0, 8], .row [.tv (.str s)] false), (b95_21 s), (b95_22 s), ([0], .row [.tv .nils] false)] (by kernel_rfl) rfl (by kernel_rfl) ?_ (by kernel_rfl) (by kernel_rfl) rfl (by kernel_rfl) ?_
   ·refine call_in (fn := Tryd.f100) [] Tryd.func100 rfl (by kernel_rfl) rfl ?_
    change AT _ _ _ ⟨[(0, .yl [11]), (1, .ptr [0, 8] 0), (2, .ptr [6, 8] 0)], (b95_50 s), [12], 0⟩
    refine at_scope ?_
    refine at_B [0, 1, 2, 4] [] [] [(1000000, .any), (0, .yl [11]), (1, .ptr [0, 8] 0), (2, .ptr [6, 8] 0), (4, .i 0)] (b95_50 s) 1 (by kernel_rfl) ?_ ?_
    ·exact trivial
    refine at_seq ?_
    refine at_label ?_
    change AT _ _ _ _
    refine at_block ?_
    refine at_loopR (X := Int × List Tk) 1 (fun ((i, out) : Int × List Tk) => [(1000000, .any), (0, .yl [11]), (1, .ptr [0, 8] 0), (2, .ptr [6, 8] 0), (4, .i i)]) (fun ((i, out) : Int × List Tk) => (b95_28 out s)) (fun ((i, out) : Int × List Tk) => lexI s i out) (fun ((i, out) : Int × List Tk) => (s.size - i).toNat) (0, []) ?_ ?_ ?_
    ·exact ⟨by decide, by omega, rfl, by simp⟩
    ·exact RnOK.perm (H1 := (b95_51 s)) [[0, 1, 12], [11], [10], [6, 8], [3, 8], [0, 8], [6], [2], [1], [0]] (by kernel_rfl) (rn_ok [([9], [0, 1, 12]), ([11], [11]), ([10], [10]), ([6, 8], [6, 8]), ([3, 8], [3, 8]), ([0, 8], [0, 8]), ([6], [6]), ([2], [2]), ([1], [1]), ([0], [0])] [[3, 8]] [0, 1, 2, 4] (⟨clO_flat _ _ _, trivial⟩) (by kernel_rfl))
    ·rintro ⟨i, out⟩ hinv
     dsimp only at hinv ⊢
     have hI := hinv
     obtain ⟨hx0, hx1, hx2, hx3⟩ := hinv
     refine at_seq ?_
     refine at_B [0, 1, 2, 4, 13] [] [] [(1000000, .any), (0, .yl [11]), (1, .ptr [0, 8] 0), (2, .ptr [6, 8] 0), (4, .i i), (13, .b (decide (i < ((s.size : Nat) : Int))))] (b95_28 out s) 5 (by kernel_rfl) ?_ ?_
     ·exact trivial
     refine at_cond (b := (decide (i < ((s.size : Nat) : Int)))) rfl rfl (fun hc13_2 => ?_) (fun hc13_2 => ?_)
     ·have q13_2 := hc13_2
      (try simp only [brs] at q13_2)
      refine at_skip ?_
      change AT _ _ _ _
      refine at_block ?_
      refine at_B [0, 1, 2, 4, 5] [] [] [(1000000, .any), (0, .yl [11]), (1, .ptr [0, 8] 0), (2, .ptr [6, 8] 0), (4, .i i), (5, .i i)] (b95_28 out s) 7 (by kernel_rfl) ?_ ?_
      ·exact trivial
      refine at_B [0, 1, 2, 4, 5, 6] [] [] [(1000000, .any), (0, .yl [11]), (1, .ptr [0, 8] 0), (2, .ptr [6, 8] 0), (4, .i i), (5, .i i), (6, .ptr [10, 1, 12] 0)] (b95_23 i out s) 12 (by kernel_rfl) ?_ ?_
      ·exact trivial
      refine at_seq ?_
      refine at_B [0, 1, 2, 4, 5, 6, 20] [.std, .std, .retS (.tv (.int .u8 (atF s i)))] [StabCall Tryd.prog 99 [.i i, .ptr [0, 8] 0, .ptr [3, 8] 0] (b95_23 i out s) (.tv (.int .u8 (atF s i)))] [(1000000, .any), (0, .yl [11]), (1, .ptr [0, 8] 0), (2, .ptr [6, 8] 0), (4, .i i), (5, .i i), (6, .ptr [10, 1, 12] 0), (20, .tv (.int .u8 (atF s i)))] (b95_23 i out s) 15 (by kernel_rfl) ?_ ?_
      ·exact ⟨StabCall.mono (H := (b95_33 s)) (stab_mv (args := [.i i, .ptr [0] 0, .ptr [1] 0]) (H := (b95_41 s)) (H2 := (b95_33 s)) (q := [50]) [([0, 8], [0]), ([3, 8], [1])] [([0], [0, 8]), ([1], [3, 8])] [[3, 8]] [[1]] ((c99 i s (by (try simp only [brs, lns] at *); omega)) _ _ (fun _ _ h => h)) (by kernel_rfl) (by kernel_rfl) (⟨clO_flat _ _ _, trivial⟩) (by kernel_rfl) (by kernel_rfl) (⟨clO_flat _ _ _, trivial⟩)) (sub_cons (by kernel_rfl) (sub_cons (by kernel_rfl) sub_nil)), trivial⟩
      refine at_block ?_
      refine at_B [0, 1, 2, 4, 5, 6, 20, 22] [] [] [(1000000, .any), (0, .yl [11]), (1, .ptr [0, 8] 0), (2, .ptr [6, 8] 0), (4, .i i), (5, .i i), (6, .ptr [10, 1, 12] 0), (20, .tv (.int .u8 (atF s i))), (22, .b (decide ((atF s i) = (1 : Int))))] (b95_23 i out s) 17 (by kernel_rfl) ?_ ?_
      ·exact trivial
      refine at_cond (b := (decide ((atF s i) = (1 : Int)))) rfl rfl (fun hc22_2 => ?_) (fun hc22_2 => ?_)
      ·have q22_2 := hc22_2
       (try simp only [brs] at q22_2)
       refine at_B [0, 1, 2, 4] [] [] [(1000000, .any), (0, .yl [11]), (1, .ptr [0, 8] 0), (2, .ptr [6, 8] 0), (4, .i (wr (i + 1)))] (b95_23 i out s) 20 (by kernel_rfl) ?_ ?_
       ·exact trivial
       refine at_exit ?_
       refine ⟨rfl, (wr (i + 1), out), ?_, ?_, ?_⟩
       ·(try dsimp only); have hk := (keep_1 hI q9 q13_2 hc22_2).1; have hk2 := (keep_1 hI q9 q13_2 hc22_2).2.1; have hg := wr_ok (n := i + 1) (by omega) (by omega); omega
       ·(try dsimp only); exact keep_1 hI q9 q13_2 hc22_2
       ·exact rn_ok [([0, 1, 12], [0, 1, 12]), ([11], [11]), ([10], [10]), ([6, 8], [6, 8]), ([3, 8], [3, 8]), ([0, 8], [0, 8]), ([6], [6]), ([2], [2]), ([1], [1]), ([0], [0])] [[0, 1, 12], [3, 8]] [0, 1, 2, 4] (⟨clO_flat _ _ _, clO_flat _ _ _, trivial⟩) (by kernel_rfl)
      ·have q22_2 := hc22_2
       (try simp only [brs] at q22_2)
       refine at_B [0, 1, 2, 4, 5, 6, 20, 26] [] [] [(1000000, .any), (0, .yl [11]), (1, .ptr [0, 8] 0), (2, .ptr [6, 8] 0), (4, .i i), (5, .i i), (6, .ptr [10, 1, 12] 0), (20, .tv (.int .u8 (atF s i))), (26, .b (decide ((atF s i) = (2 : Int))))] (b95_23 i out s) 19 (by kernel_rfl) ?_ ?_
       ·exact trivial
       refine at_cond (b := (decide ((atF s i) = (2 : Int)))) rfl rfl (fun hc26_2 => ?_) (fun hc26_2 => ?_)
       ·have q26_2 := hc26_2
        (try simp only [brs] at q26_2)
        refine at_seq ?_
        refine at_block ?_
        refine at_loopR (X := Int) 0 (fun (j : Int) => [(1000000, .any), (0, .yl [11]), (1, .ptr [0, 8] 0), (2, .ptr [6, 8] 0), (4, .i j)]) (fun (j : Int) => (b95_23 i out s)) (fun (j : Int) => i ≤ j ∧ j ≤ s.size ∧ runI (hsC s) s j = runI (hsC s) s i) (fun (j : Int) => (s.size - j).toNat) i ?_ ?_ ?_
        ·exact ⟨Int.le_refl _, by omega, rfl⟩
        ·exact rn_ok [([10, 1, 12], [10, 1, 12]), ([0, 1, 12], [0, 1, 12]), ([11], [11]), ([10], [10]), ([6, 8], [6, 8]), ([3, 8], [3, 8]), ([0, 8], [0, 8]), ([6], [6]), ([2], [2]), ([1], [1]), ([0], [0])] [[0, 1, 12], [3, 8]] [0, 1, 2, 4] (⟨clO_flat _ _ _, clO_flat _ _ _, trivial⟩) (by kernel_rfl)
        ·intro j hinv
         obtain ⟨hj1, hj2, hj3⟩ := hinv
         refine at_seq ?_
         refine at_B [0, 1, 2, 4, 37] [] [((decide (j < ((s.size : Nat) : Int))) = true) → (0 ≤ j ∧ j < ((s.size : Nat) : Int))] [(1000000, .any), (0, .yl [11]), (1, .ptr [0, 8] 0), (2, .ptr [6, 8] 0), (4, .i j), (37, .b ((decide (j < ((s.size : Nat) : Int))) && (!decide (sbyte s j = (10 : Int)))))] (b95_23 i out s) 10 (by kernel_rfl) ?_ ?_
         ·exact ⟨fun hg0 => by (try simp only [brs, lns] at *); omega, trivial⟩
         refine at_cond (b := ((decide (j < ((s.size : Nat) : Int))) && (!decide (sbyte s j = (10 : Int))))) rfl rfl (fun hc37_2 => ?_) (fun hc37_2 => ?_)
         ·have q37_2 := hc37_2
          (try simp only [brs] at q37_2)
          have hjn : j < s.size := hsC_lt hc37_2
          have hwr : wr (j + 1) = j + 1 := wr_ok (by omega) (by omega)
          refine at_skip ?_
          change AT _ _ _ _
          refine at_block ?_
          refine at_Bl [0, 1, 2, 4] [] [] [(1000000, .any), (0, .yl [11]), (1, .ptr [0, 8] 0), (2, .ptr [6, 8] 0), (4, .i (wr (j + 1)))] (b95_23 i out s) 13 (by kernel_rfl) ?_ ?_
          ·exact trivial
          refine ⟨rfl, (wr (j + 1)), ?_, ?_, ?_⟩
          ·(try dsimp only); rw [hwr]; omega
          ·exact ⟨by rw [hwr]; omega, by rw [hwr]; omega, by rw [hwr]; exact runI_step hj3 hj1 hjn hc37_2⟩
          ·exact rn_ok [([10, 1, 12], [10, 1, 12]), ([0, 1, 12], [0, 1, 12]), ([11], [11]), ([10], [10]), ([6, 8], [6, 8]), ([3, 8], [3, 8]), ([0, 8], [0, 8]), ([6], [6]), ([2], [2]), ([1], [1]), ([0], [0])] [[0, 1, 12], [3, 8]] [0, 1, 2, 4] (⟨clO_flat _ _ _, clO_flat _ _ _, trivial⟩) (by kernel_rfl)
         ·have q37_2 := hc37_2
          (try simp only [brs] at q37_2)
          have hsub : j = (runI (hsC s) s i) := runI_stop hj3 hj1 hc37_2
          subst hsub
          refine at_exit ?_
          change AT _ _ _ _
          refine at_exit ?_
          refine ⟨rfl, ((runI (hsC s) s i), out), ?_, ?_, ?_⟩
          ·(try dsimp only); have hk := (keep_2 hI q13_2 hc22_2 hc26_2).1; have hk2 := (keep_2 hI q13_2 hc22_2 hc26_2).2.1; have hg := hash_gt q13_2 hc26_2 hx0; omega
          ·(try dsimp only); exact keep_2 hI q13_2 hc22_2 hc26_2
          ·exact RnOK.perm (H1 := (b95_28 out s)) [[10, 1, 12], [0, 1, 12], [11], [10], [6, 8], [3, 8], [0, 8], [6], [2], [1], [0]] (by kernel_rfl) (rn_ok [([0, 1, 12], [0, 1, 12]), ([11], [11]), ([10], [10]), ([6, 8], [6, 8]), ([3, 8], [3, 8]), ([0, 8], [0, 8]), ([6], [6]), ([2], [2]), ([1], [1]), ([0], [0])] [[0, 1, 12], [3, 8]] [0, 1, 2, 4] (⟨clO_flat _ _ _, clO_flat _ _ _, trivial⟩) (by kernel_rfl))
       ·have q26_2 := hc26_2
        (try simp only [brs] at q26_2)
        refine at_B [0, 1, 2, 4, 5, 6, 20, 40] [] [] [(1000000, .any), (0, .yl [11]), (1, .ptr [0, 8] 0), (2, .ptr [6, 8] 0), (4, .i i), (5, .i i), (6, .ptr [10, 1, 12] 0), (20, .tv (.int .u8 (atF s i))), (40, .b (decide ((atF s i) = (3 : Int))))] (b95_23 i out s) 21 (by kernel_rfl) ?_ ?_
        ·exact trivial
        refine at_mergel (p := [1, 12]) [(1000000, .any), (0, .yl [11]), (1, .ptr [0, 8] 0), (2, .ptr [6, 8] 0), (4, .i (bif (decide ((atF s i) = (3 : Int))) then (runI (nmC s) s i) else (bif (decide ((atF s i) = (4 : Int))) then (runI (dgC s) s i) else (bif (bif (decide ((atF s i) = (6 : Int))) then (decide ((atF s i) = (6 : Int))) else (bif (decide ((atF s i) = (7 : Int))) then (decide ((atF s i) = (7 : Int))) else (decide ((atF s i) = (8 : Int))))) then (bif (((!decide ((atF s i) = (6 : Int))) && (decide (wr (i + 1) < ((s.size : Nat) : Int)))) && (decide (sbyte s (wr (i + 1)) = (61 : Int)))) then wr ((wr (i + 1)) + 1) else wr (i + 1)) else i)))), (5, .i i), (6, .ptr [10, 1, 12] 0)] [([10, 1, 12], .row [.i (bif (decide ((atF s i) = (3 : Int))) then 1 else (bif (decide ((atF s i) = (4 : Int))) then 2 else (bif (bif (decide ((atF s i) = (6 : Int))) then (decide ((atF s i) = (6 : Int))) else (bif (decide ((atF s i) = (7 : Int))) then (decide ((atF s i) = (7 : Int))) else (decide ((atF s i) = (8 : Int))))) then 3 else 0))), .tv (.str ⟨#[]⟩), .i (bif (decide ((atF s i) = (3 : Int))) then 0 else (bif (decide ((atF s i) = (4 : Int))) then (bif (((decide ((7 : Int) < wr ((runI (dgC s) s i) - i))) || (decide ((atF s (runI (dgC s) s i)) = (3 : Int)))) || (decide ((atF s (runI (dgC s) s i)) = (5 : Int)))) then 0 else (atoiV (s.extract i.toNat (runI (dgC s) s i).toNat))) else 0)), .i i, .i (bif (decide ((atF s i) = (3 : Int))) then (bif (decide ((24 : Int) < wr ((runI (nmC s) s i) - i))) then 2 else 0) else (bif (decide ((atF s i) = (4 : Int))) then (bif (((decide ((7 : Int) < wr ((runI (dgC s) s i) - i))) || (decide ((atF s (runI (dgC s) s i)) = (3 : Int)))) || (decide ((atF s (runI (dgC s) s i)) = (5 : Int)))) then 4 else 0) else (bif (bif (decide ((atF s i) = (6 : Int))) then (decide ((atF s i) = (6 : Int))) else (bif (decide ((atF s i) = (7 : Int))) then (decide ((atF s i) = (7 : Int))) else (decide ((atF s i) = (8 : Int))))) then (bif (((!decide ((atF s i) = (6 : Int))) && (decide (wr (i + 1) < ((s.size : Nat) : Int)))) && (decide (sbyte s (wr (i + 1)) = (61 : Int)))) then 0 else (bif (decide ((atF s i) = (8 : Int))) then 3 else 0)) else 3)))] false), ([0, 1, 12], .row (flat celT out) false), ([11], .loop [(1000000, .any), (2, .ptr [0] 0), (3, .ptr [1] 0), (4, .ptr [2] 0), (5, .ptr [6] 0), (11, .fn (.func 100) [.ptr [0, 8] 0, .ptr [6, 8] 0])] 35 [12] (fcode Tryd.f95 [1, 1, 1, 0, 1, 1, 0]) (fcode Tryd.f95 [1, 1, 1, 0, 1, 1, 1]) .ready none), ([10], .dfr), ([6, 8], .row [.fn (.func 99) [.ptr [0, 8] 0, .ptr [3, 8] 0]] false), ([3, 8], .row (flat (encK .u8) clsL) false), ([0, 8], .row [.tv (.str s)] false), ([6], .row [.sl [0, 1, 12] 4 0 out.length] false), ([2], .row [.i 0] false), ([1], .row [.i 0] false), ([0], .row [.tv .nils] false)] 57 ?_ ?_
        ·refine at_cond (b := (decide ((atF s i) = (3 : Int)))) rfl rfl (fun hc40_2 => ?_) (fun hc40_2 => ?_)
         ·skip
          refine at_seq ?_
          refine at_B [0, 1, 2, 4, 5, 6, 7] [.std, .std, .retS (.tv (.int .u8 (atF s i)))] [StabCall Tryd.prog 99 [.i i, .ptr [0, 8] 0, .ptr [3, 8] 0] (b95_23 i out s) (.tv (.int .u8 (atF s i)))] [(1000000, .any), (0, .yl [11]), (1, .ptr [0, 8] 0), (2, .ptr [6, 8] 0), (4, .i i), (5, .i i), (6, .ptr [10, 1, 12] 0), (7, .tv (.int .u8 (atF s i)))] (b95_23 i out s) 25 (by kernel_rfl) ?_ ?_
          ·exact ⟨StabCall.mono (H := (b95_33 s)) (stab_mv (args := [.i i, .ptr [0] 0, .ptr [1] 0]) (H := (b95_41 s)) (H2 := (b95_33 s)) (q := [50]) [([0, 8], [0]), ([3, 8], [1])] [([0], [0, 8]), ([1], [3, 8])] [[3, 8]] [[1]] ((c99 i s (by (try simp only [brs, lns] at *); omega)) _ _ (fun _ _ h => h)) (by kernel_rfl) (by kernel_rfl) (⟨clO_flat _ _ _, trivial⟩) (by kernel_rfl) (by kernel_rfl) (⟨clO_flat _ _ _, trivial⟩)) (sub_cons (by kernel_rfl) (sub_cons (by kernel_rfl) sub_nil)), trivial⟩
          refine at_block ?_
          refine at_loopR (X := Int) 0 (fun (j : Int) => [(1000000, .any), (0, .yl [11]), (1, .ptr [0, 8] 0), (2, .ptr [6, 8] 0), (4, .i j), (5, .i i), (6, .ptr [10, 1, 12] 0), (7, .tv (.int .u8 (atF s j)))]) (fun (j : Int) => (b95_23 i out s)) (fun (j : Int) => i ≤ j ∧ j ≤ s.size ∧ runI (nmC s) s j = runI (nmC s) s i) (fun (j : Int) => (s.size - j).toNat) i ?_ ?_ ?_
          ·exact ⟨Int.le_refl _, by omega, rfl⟩
          ·exact rn_ok [([10, 1, 12], [10, 1, 12]), ([0, 1, 12], [0, 1, 12]), ([11], [11]), ([10], [10]), ([6, 8], [6, 8]), ([3, 8], [3, 8]), ([0, 8], [0, 8]), ([6], [6]), ([2], [2]), ([1], [1]), ([0], [0])] [[0, 1, 12], [3, 8]] [0, 1, 2, 4, 5, 6, 7] (⟨clO_flat _ _ _, clO_flat _ _ _, trivial⟩) (by kernel_rfl)
          ·intro j hinv
           obtain ⟨hj1, hj2, hj3⟩ := hinv
           refine at_seq ?_
           refine at_B [0, 1, 2, 4, 5, 6, 54] [] [] [(1000000, .any), (0, .yl [11]), (1, .ptr [0, 8] 0), (2, .ptr [6, 8] 0), (4, .i j), (5, .i i), (6, .ptr [10, 1, 12] 0), (54, .b (((decide ((atF s j) = (3 : Int))) || (decide ((atF s j) = (4 : Int)))) || (decide ((atF s j) = (5 : Int)))))] (b95_23 i out s) 10 (by kernel_rfl) ?_ ?_
           ·exact trivial
           refine at_cond (b := (((decide ((atF s j) = (3 : Int))) || (decide ((atF s j) = (4 : Int)))) || (decide ((atF s j) = (5 : Int))))) rfl rfl (fun hc54_2 => ?_) (fun hc54_2 => ?_)
           ·have q54_2 := hc54_2
            (try simp only [brs] at q54_2)
            have hjn : j < s.size := nmC_lt hc54_2
            have hwr : wr (j + 1) = j + 1 := wr_ok (by omega) (by omega)
            refine at_skip ?_
            change AT _ _ _ _
            refine at_seq ?_
            refine at_block ?_
            refine at_Bl [0, 1, 2, 4, 5, 6] [] [] [(1000000, .any), (0, .yl [11]), (1, .ptr [0, 8] 0), (2, .ptr [6, 8] 0), (4, .i (wr (j + 1))), (5, .i i), (6, .ptr [10, 1, 12] 0)] (b95_23 i out s) 13 (by kernel_rfl) ?_ ?_
            ·exact trivial
            change AT _ _ _ _
            refine at_Bl [0, 1, 2, 4, 5, 6, 7] [.std, .std, .retS (.tv (.int .u8 (atF s (wr (j + 1)))))] [StabCall Tryd.prog 99 [.i (wr (j + 1)), .ptr [0, 8] 0, .ptr [3, 8] 0] (b95_23 i out s) (.tv (.int .u8 (atF s (wr (j + 1)))))] [(1000000, .any), (0, .yl [11]), (1, .ptr [0, 8] 0), (2, .ptr [6, 8] 0), (4, .i (wr (j + 1))), (5, .i i), (6, .ptr [10, 1, 12] 0), (7, .tv (.int .u8 (atF s (wr (j + 1)))))] (b95_23 i out s) 17 (by kernel_rfl) ?_ ?_
            ·exact ⟨StabCall.mono (H := (b95_33 s)) (stab_mv (args := [.i (wr (j + 1)), .ptr [0] 0, .ptr [1] 0]) (H := (b95_41 s)) (H2 := (b95_33 s)) (q := [50]) [([0, 8], [0]), ([3, 8], [1])] [([0], [0, 8]), ([1], [3, 8])] [[3, 8]] [[1]] ((c99 (wr (j + 1)) s (by (try simp only [brs, lns] at *); omega)) _ _ (fun _ _ h => h)) (by kernel_rfl) (by kernel_rfl) (⟨clO_flat _ _ _, trivial⟩) (by kernel_rfl) (by kernel_rfl) (⟨clO_flat _ _ _, trivial⟩)) (sub_cons (by kernel_rfl) (sub_cons (by kernel_rfl) sub_nil)), trivial⟩
            refine ⟨rfl, (wr (j + 1)), ?_, ?_, ?_⟩
            ·(try dsimp only); rw [hwr]; omega
            ·exact ⟨by rw [hwr]; omega, by rw [hwr]; omega, by rw [hwr]; exact runI_step hj3 hj1 hjn hc54_2⟩
            ·exact rn_ok [([10, 1, 12], [10, 1, 12]), ([0, 1, 12], [0, 1, 12]), ([11], [11]), ([10], [10]), ([6, 8], [6, 8]), ([3, 8], [3, 8]), ([0, 8], [0, 8]), ([6], [6]), ([2], [2]), ([1], [1]), ([0], [0])] [[0, 1, 12], [3, 8]] [0, 1, 2, 4, 5, 6, 7] (⟨clO_flat _ _ _, clO_flat _ _ _, trivial⟩) (by kernel_rfl)
           ·have q54_2 := hc54_2
            (try simp only [brs] at q54_2)
            have hsub : j = (runI (nmC s) s i) := runI_stop hj3 hj1 hc54_2
            subst hsub
            refine at_exit ?_
            change AT _ _ _ _
            refine at_B [0, 1, 2, 4, 5, 6] [] [] [(1000000, .any), (0, .yl [11]), (1, .ptr [0, 8] 0), (2, .ptr [6, 8] 0), (4, .i (runI (nmC s) s i)), (5, .i i), (6, .ptr [10, 1, 12] 0)] (b95_34 i out s) 29 (by kernel_rfl) ?_ ?_
            ·exact trivial
            refine at_B [0, 1, 2, 4, 5, 6, 65] [] [] [(1000000, .any), (0, .yl [11]), (1, .ptr [0, 8] 0), (2, .ptr [6, 8] 0), (4, .i (runI (nmC s) s i)), (5, .i i), (6, .ptr [10, 1, 12] 0), (65, .b (decide ((24 : Int) < wr ((runI (nmC s) s i) - i))))] (b95_34 i out s) 33 (by kernel_rfl) ?_ ?_
            ·exact trivial
            refine at_mergel (p := [1, 12]) [(1000000, .any), (0, .yl [11]), (1, .ptr [0, 8] 0), (2, .ptr [6, 8] 0), (4, .i (runI (nmC s) s i)), (5, .i i), (6, .ptr [10, 1, 12] 0)] [([10, 1, 12], .row [.i 1, .tv (.str ⟨#[]⟩), .i 0, .i i, .i (bif (decide ((24 : Int) < wr ((runI (nmC s) s i) - i))) then 2 else 0)] false), ([0, 1, 12], .row (flat celT out) false), ([11], .loop [(1000000, .any), (2, .ptr [0] 0), (3, .ptr [1] 0), (4, .ptr [2] 0), (5, .ptr [6] 0), (11, .fn (.func 100) [.ptr [0, 8] 0, .ptr [6, 8] 0])] 35 [12] (fcode Tryd.f95 [1, 1, 1, 0, 1, 1, 0]) (fcode Tryd.f95 [1, 1, 1, 0, 1, 1, 1]) .ready none), ([10], .dfr), ([6, 8], .row [.fn (.func 99) [.ptr [0, 8] 0, .ptr [3, 8] 0]] false), ([3, 8], .row (flat (encK .u8) clsL) false), ([0, 8], .row [.tv (.str s)] false), ([6], .row [.sl [0, 1, 12] 4 0 out.length] false), ([2], .row [.i 0] false), ([1], .row [.i 0] false), ([0], .row [.tv .nils] false)] 35 ?_ ?_
            ·refine at_cond (b := (decide ((24 : Int) < wr ((runI (nmC s) s i) - i)))) rfl rfl (fun hc65_2 => ?_) (fun hc65_2 => ?_)
             ·skip
              refine at_Bl [0, 1, 2, 4, 5, 6] [] [] [(1000000, .any), (0, .yl [11]), (1, .ptr [0, 8] 0), (2, .ptr [6, 8] 0), (4, .i (runI (nmC s) s i)), (5, .i i), (6, .ptr [10, 1, 12] 0)] (b95_37 i out s) 35 (by kernel_rfl) ?_ ?_
              ·exact trivial
              exact gh_merge [0, 1, 2, 4, 5, 6] [[10, 1, 12], [0, 1, 12], [11], [10], [6, 8], [3, 8], [0, 8], [6], [2], [1], [0]] (by kernel_rfl) (Eq.trans (b := [([10, 1, 12], .row [.i 1, .tv (.str ⟨#[]⟩), .i 0, .i i, .i 2] false), ([0, 1, 12], .row (flat celT out) false), ([11], .loop [(1000000, .any), (2, .ptr [0] 0), (3, .ptr [1] 0), (4, .ptr [2] 0), (5, .ptr [6] 0), (11, .fn (.func 100) [.ptr [0, 8] 0, .ptr [6, 8] 0])] 35 [12] (fcode Tryd.f95 [1, 1, 1, 0, 1, 1, 0]) (fcode Tryd.f95 [1, 1, 1, 0, 1, 1, 1]) .ready none), ([10], .dfr), ([6, 8], .row [.fn (.func 99) [.ptr [0, 8] 0, .ptr [3, 8] 0]] false), ([3, 8], .row (flat (encK .u8) clsL) false), ([0, 8], .row [.tv (.str s)] false), ([6], .row [.sl [0, 1, 12] 4 0 out.length] false), ([2], .row [.i 0] false), ([1], .row [.i 0] false), ([0], .row [.tv .nils] false)]) (by kernel_rfl) (by simp only [hc65_2, cond_true, cond_false]; try rfl)) (by kernel_rfl)
             ·skip
              refine at_skip ?_
              exact gh_merge [0, 1, 2, 4, 5, 6] [[10, 1, 12], [0, 1, 12], [11], [10], [6, 8], [3, 8], [0, 8], [6], [2], [1], [0]] (by kernel_rfl) (Eq.trans (b := [([10, 1, 12], .row [.i 1, .tv (.str ⟨#[]⟩), .i 0, .i i, .i 0] false), ([0, 1, 12], .row (flat celT out) false), ([11], .loop [(1000000, .any), (2, .ptr [0] 0), (3, .ptr [1] 0), (4, .ptr [2] 0), (5, .ptr [6] 0), (11, .fn (.func 100) [.ptr [0, 8] 0, .ptr [6, 8] 0])] 35 [12] (fcode Tryd.f95 [1, 1, 1, 0, 1, 1, 0]) (fcode Tryd.f95 [1, 1, 1, 0, 1, 1, 1]) .ready none), ([10], .dfr), ([6, 8], .row [.fn (.func 99) [.ptr [0, 8] 0, .ptr [3, 8] 0]] false), ([3, 8], .row (flat (encK .u8) clsL) false), ([0, 8], .row [.tv (.str s)] false), ([6], .row [.sl [0, 1, 12] 4 0 out.length] false), ([2], .row [.i 0] false), ([1], .row [.i 0] false), ([0], .row [.tv .nils] false)]) (by kernel_rfl) (by simp only [hc65_2, cond_true, cond_false]; try rfl)) (by kernel_rfl)
            exact gh_merge [0, 1, 2, 4, 5, 6] [[10, 1, 12], [0, 1, 12], [11], [10], [6, 8], [3, 8], [0, 8], [6], [2], [1], [0]] (Eq.trans (b := [(1000000, .any), (0, .yl [11]), (1, .ptr [0, 8] 0), (2, .ptr [6, 8] 0), (4, .i (runI (nmC s) s i)), (5, .i i), (6, .ptr [10, 1, 12] 0)]) (by kernel_rfl) (by simp only [hc40_2, cond_true, cond_false]; try rfl)) (Eq.trans (b := [([10, 1, 12], .row [.i 1, .tv (.str ⟨#[]⟩), .i 0, .i i, .i (bif (decide ((24 : Int) < wr ((runI (nmC s) s i) - i))) then 2 else 0)] false), ([0, 1, 12], .row (flat celT out) false), ([11], .loop [(1000000, .any), (2, .ptr [0] 0), (3, .ptr [1] 0), (4, .ptr [2] 0), (5, .ptr [6] 0), (11, .fn (.func 100) [.ptr [0, 8] 0, .ptr [6, 8] 0])] 35 [12] (fcode Tryd.f95 [1, 1, 1, 0, 1, 1, 0]) (fcode Tryd.f95 [1, 1, 1, 0, 1, 1, 1]) .ready none), ([10], .dfr), ([6, 8], .row [.fn (.func 99) [.ptr [0, 8] 0, .ptr [3, 8] 0]] false), ([3, 8], .row (flat (encK .u8) clsL) false), ([0, 8], .row [.tv (.str s)] false), ([6], .row [.sl [0, 1, 12] 4 0 out.length] false), ([2], .row [.i 0] false), ([1], .row [.i 0] false), ([0], .row [.tv .nils] false)]) (by kernel_rfl) (by simp only [hc40_2, cond_true, cond_false]; try rfl)) (by kernel_rfl)
         ·skip
          refine at_B [0, 1, 2, 4, 5, 6, 20, 67] [] [] [(1000000, .any), (0, .yl [11]), (1, .ptr [0, 8] 0), (2, .ptr [6, 8] 0), (4, .i i), (5, .i i), (6, .ptr [10, 1, 12] 0), (20, .tv (.int .u8 (atF s i))), (67, .b (decide ((atF s i) = (4 : Int))))] (b95_23 i out s) 23 (by kernel_rfl) ?_ ?_
          ·exact trivial
          refine at_mergel (p := [1, 12]) [(1000000, .any), (0, .yl [11]), (1, .ptr [0, 8] 0), (2, .ptr [6, 8] 0), (4, .i (bif (decide ((atF s i) = (4 : Int))) then (runI (dgC s) s i) else (bif (bif (decide ((atF s i) = (6 : Int))) then (decide ((atF s i) = (6 : Int))) else (bif (decide ((atF s i) = (7 : Int))) then (decide ((atF s i) = (7 : Int))) else (decide ((atF s i) = (8 : Int))))) then (bif (((!decide ((atF s i) = (6 : Int))) && (decide (wr (i + 1) < ((s.size : Nat) : Int)))) && (decide (sbyte s (wr (i + 1)) = (61 : Int)))) then wr ((wr (i + 1)) + 1) else wr (i + 1)) else i))), (5, .i i), (6, .ptr [10, 1, 12] 0)] [([10, 1, 12], .row [.i (bif (decide ((atF s i) = (4 : Int))) then 2 else (bif (bif (decide ((atF s i) = (6 : Int))) then (decide ((atF s i) = (6 : Int))) else (bif (decide ((atF s i) = (7 : Int))) then (decide ((atF s i) = (7 : Int))) else (decide ((atF s i) = (8 : Int))))) then 3 else 0)), .tv (.str ⟨#[]⟩), .i (bif (decide ((atF s i) = (4 : Int))) then (bif (((decide ((7 : Int) < wr ((runI (dgC s) s i) - i))) || (decide ((atF s (runI (dgC s) s i)) = (3 : Int)))) || (decide ((atF s (runI (dgC s) s i)) = (5 : Int)))) then 0 else (atoiV (s.extract i.toNat (runI (dgC s) s i).toNat))) else 0), .i i, .i (bif (decide ((atF s i) = (4 : Int))) then (bif (((decide ((7 : Int) < wr ((runI (dgC s) s i) - i))) || (decide ((atF s (runI (dgC s) s i)) = (3 : Int)))) || (decide ((atF s (runI (dgC s) s i)) = (5 : Int)))) then 4 else 0) else (bif (bif (decide ((atF s i) = (6 : Int))) then (decide ((atF s i) = (6 : Int))) else (bif (decide ((atF s i) = (7 : Int))) then (decide ((atF s i) = (7 : Int))) else (decide ((atF s i) = (8 : Int))))) then (bif (((!decide ((atF s i) = (6 : Int))) && (decide (wr (i + 1) < ((s.size : Nat) : Int)))) && (decide (sbyte s (wr (i + 1)) = (61 : Int)))) then 0 else (bif (decide ((atF s i) = (8 : Int))) then 3 else 0)) else 3))] false), ([0, 1, 12], .row (flat celT out) false), ([11], .loop [(1000000, .any), (2, .ptr [0] 0), (3, .ptr [1] 0), (4, .ptr [2] 0), (5, .ptr [6] 0), (11, .fn (.func 100) [.ptr [0, 8] 0, .ptr [6, 8] 0])] 35 [12] (fcode Tryd.f95 [1, 1, 1, 0, 1, 1, 0]) (fcode Tryd.f95 [1, 1, 1, 0, 1, 1, 1]) .ready none), ([10], .dfr), ([6, 8], .row [.fn (.func 99) [.ptr [0, 8] 0, .ptr [3, 8] 0]] false), ([3, 8], .row (flat (encK .u8) clsL) false), ([0, 8], .row [.tv (.str s)] false), ([6], .row [.sl [0, 1, 12] 4 0 out.length] false), ([2], .row [.i 0] false), ([1], .row [.i 0] false), ([0], .row [.tv .nils] false)] 57 ?_ ?_
          ·refine at_cond (b := (decide ((atF s i) = (4 : Int)))) rfl rfl (fun hc67_2 => ?_) (fun hc67_2 => ?_)
           ·skip
            refine at_seq ?_
            refine at_block ?_
            refine at_loopR (X := Int) 0 (fun (j : Int) => [(1000000, .any), (0, .yl [11]), (1, .ptr [0, 8] 0), (2, .ptr [6, 8] 0), (4, .i j), (5, .i i), (6, .ptr [10, 1, 12] 0)]) (fun (j : Int) => (b95_23 i out s)) (fun (j : Int) => i ≤ j ∧ j ≤ s.size ∧ runI (dgC s) s j = runI (dgC s) s i) (fun (j : Int) => (s.size - j).toNat) i ?_ ?_ ?_
            ·exact ⟨Int.le_refl _, by omega, rfl⟩
            ·exact rn_ok [([10, 1, 12], [10, 1, 12]), ([0, 1, 12], [0, 1, 12]), ([11], [11]), ([10], [10]), ([6, 8], [6, 8]), ([3, 8], [3, 8]), ([0, 8], [0, 8]), ([6], [6]), ([2], [2]), ([1], [1]), ([0], [0])] [[0, 1, 12], [3, 8]] [0, 1, 2, 4, 5, 6] (⟨clO_flat _ _ _, clO_flat _ _ _, trivial⟩) (by kernel_rfl)
            ·intro j hinv
             obtain ⟨hj1, hj2, hj3⟩ := hinv
             refine at_seq ?_
             refine at_B [0, 1, 2, 4, 5, 6, 72] [.std, .std, .retS (.tv (.int .u8 (atF s j)))] [StabCall Tryd.prog 99 [.i j, .ptr [0, 8] 0, .ptr [3, 8] 0] (b95_23 i out s) (.tv (.int .u8 (atF s j)))] [(1000000, .any), (0, .yl [11]), (1, .ptr [0, 8] 0), (2, .ptr [6, 8] 0), (4, .i j), (5, .i i), (6, .ptr [10, 1, 12] 0), (72, .b (decide ((atF s j) = (4 : Int))))] (b95_23 i out s) 4 (by kernel_rfl) ?_ ?_
             ·exact ⟨StabCall.mono (H := (b95_33 s)) (stab_mv (args := [.i j, .ptr [0] 0, .ptr [1] 0]) (H := (b95_41 s)) (H2 := (b95_33 s)) (q := [50]) [([0, 8], [0]), ([3, 8], [1])] [([0], [0, 8]), ([1], [3, 8])] [[3, 8]] [[1]] ((c99 j s (by (try simp only [brs, lns] at *); omega)) _ _ (fun _ _ h => h)) (by kernel_rfl) (by kernel_rfl) (⟨clO_flat _ _ _, trivial⟩) (by kernel_rfl) (by kernel_rfl) (⟨clO_flat _ _ _, trivial⟩)) (sub_cons (by kernel_rfl) (sub_cons (by kernel_rfl) sub_nil)), trivial⟩
             refine at_cond (b := (decide ((atF s j) = (4 : Int)))) rfl rfl (fun hc72_2 => ?_) (fun hc72_2 => ?_)
             ·have q72_2 := hc72_2
              (try simp only [brs] at q72_2)
              have hjn : j < s.size := dgC_lt hc72_2
              have hwr : wr (j + 1) = j + 1 := wr_ok (by omega) (by omega)
              refine at_skip ?_
              change AT _ _ _ _
              refine at_block ?_
              refine at_Bl [0, 1, 2, 4, 5, 6] [] [] [(1000000, .any), (0, .yl [11]), (1, .ptr [0, 8] 0), (2, .ptr [6, 8] 0), (4, .i (wr (j + 1))), (5, .i i), (6, .ptr [10, 1, 12] 0)] (b95_23 i out s) 7 (by kernel_rfl) ?_ ?_
              ·exact trivial
              refine ⟨rfl, (wr (j + 1)), ?_, ?_, ?_⟩
              ·(try dsimp only); rw [hwr]; omega
              ·exact ⟨by rw [hwr]; omega, by rw [hwr]; omega, by rw [hwr]; exact runI_step hj3 hj1 hjn hc72_2⟩
              ·exact rn_ok [([10, 1, 12], [10, 1, 12]), ([0, 1, 12], [0, 1, 12]), ([11], [11]), ([10], [10]), ([6, 8], [6, 8]), ([3, 8], [3, 8]), ([0, 8], [0, 8]), ([6], [6]), ([2], [2]), ([1], [1]), ([0], [0])] [[0, 1, 12], [3, 8]] [0, 1, 2, 4, 5, 6] (⟨clO_flat _ _ _, clO_flat _ _ _, trivial⟩) (by kernel_rfl)
             ·have q72_2 := hc72_2
              (try simp only [brs] at q72_2)
              have hsub : j = (runI (dgC s) s i) := runI_stop hj3 hj1 hc72_2
              subst hsub
              refine at_exit ?_
              change AT _ _ _ _
              refine at_B [0, 1, 2, 4, 5, 6] [] [] [(1000000, .any), (0, .yl [11]), (1, .ptr [0, 8] 0), (2, .ptr [6, 8] 0), (4, .i (runI (dgC s) s i)), (5, .i i), (6, .ptr [10, 1, 12] 0)] (b95_27 i out s) 27 (by kernel_rfl) ?_ ?_
              ·exact trivial
              refine at_B [0, 1, 2, 4, 5, 6, 8] [.std, .std, .retS (.tv (.int .u8 (atF s (runI (dgC s) s i))))] [StabCall Tryd.prog 99 [.i (runI (dgC s) s i), .ptr [0, 8] 0, .ptr [3, 8] 0] (b95_27 i out s) (.tv (.int .u8 (atF s (runI (dgC s) s i))))] [(1000000, .any), (0, .yl [11]), (1, .ptr [0, 8] 0), (2, .ptr [6, 8] 0), (4, .i (runI (dgC s) s i)), (5, .i i), (6, .ptr [10, 1, 12] 0), (8, .tv (.int .u8 (atF s (runI (dgC s) s i))))] (b95_27 i out s) 31 (by kernel_rfl) ?_ ?_
              ·exact ⟨StabCall.mono (H := (b95_33 s)) (stab_mv (args := [.i (runI (dgC s) s i), .ptr [0] 0, .ptr [1] 0]) (H := (b95_41 s)) (H2 := (b95_33 s)) (q := [50]) [([0, 8], [0]), ([3, 8], [1])] [([0], [0, 8]), ([1], [3, 8])] [[3, 8]] [[1]] ((c99 (runI (dgC s) s i) s (by (try simp only [brs, lns] at *); omega)) _ _ (fun _ _ h => h)) (by kernel_rfl) (by kernel_rfl) (⟨clO_flat _ _ _, trivial⟩) (by kernel_rfl) (by kernel_rfl) (⟨clO_flat _ _ _, trivial⟩)) (sub_cons (by kernel_rfl) (sub_cons (by kernel_rfl) sub_nil)), trivial⟩
              refine at_B [0, 1, 2, 4, 5, 6, 91] [] [] [(1000000, .any), (0, .yl [11]), (1, .ptr [0, 8] 0), (2, .ptr [6, 8] 0), (4, .i (runI (dgC s) s i)), (5, .i i), (6, .ptr [10, 1, 12] 0), (91, .b (((decide ((7 : Int) < wr ((runI (dgC s) s i) - i))) || (decide ((atF s (runI (dgC s) s i)) = (3 : Int)))) || (decide ((atF s (runI (dgC s) s i)) = (5 : Int)))))] (b95_27 i out s) 43 (by kernel_rfl) ?_ ?_
              ·exact trivial
              refine at_mergel (p := [1, 12]) [(1000000, .any), (0, .yl [11]), (1, .ptr [0, 8] 0), (2, .ptr [6, 8] 0), (4, .i (runI (dgC s) s i)), (5, .i i), (6, .ptr [10, 1, 12] 0)] [([10, 1, 12], .row [.i 2, .tv (.str ⟨#[]⟩), .i (bif (((decide ((7 : Int) < wr ((runI (dgC s) s i) - i))) || (decide ((atF s (runI (dgC s) s i)) = (3 : Int)))) || (decide ((atF s (runI (dgC s) s i)) = (5 : Int)))) then 0 else (atoiV (s.extract i.toNat (runI (dgC s) s i).toNat))), .i i, .i (bif (((decide ((7 : Int) < wr ((runI (dgC s) s i) - i))) || (decide ((atF s (runI (dgC s) s i)) = (3 : Int)))) || (decide ((atF s (runI (dgC s) s i)) = (5 : Int)))) then 4 else 0)] false), ([0, 1, 12], .row (flat celT out) false), ([11], .loop [(1000000, .any), (2, .ptr [0] 0), (3, .ptr [1] 0), (4, .ptr [2] 0), (5, .ptr [6] 0), (11, .fn (.func 100) [.ptr [0, 8] 0, .ptr [6, 8] 0])] 35 [12] (fcode Tryd.f95 [1, 1, 1, 0, 1, 1, 0]) (fcode Tryd.f95 [1, 1, 1, 0, 1, 1, 1]) .ready none), ([10], .dfr), ([6, 8], .row [.fn (.func 99) [.ptr [0, 8] 0, .ptr [3, 8] 0]] false), ([3, 8], .row (flat (encK .u8) clsL) false), ([0, 8], .row [.tv (.str s)] false), ([6], .row [.sl [0, 1, 12] 4 0 out.length] false), ([2], .row [.i 0] false), ([1], .row [.i 0] false), ([0], .row [.tv .nils] false)] 54 ?_ ?_
              ·refine at_cond (b := (((decide ((7 : Int) < wr ((runI (dgC s) s i) - i))) || (decide ((atF s (runI (dgC s) s i)) = (3 : Int)))) || (decide ((atF s (runI (dgC s) s i)) = (5 : Int))))) rfl rfl (fun hc91_2 => ?_) (fun hc91_2 => ?_)
               ·skip
                refine at_Bl [0, 1, 2, 4, 5, 6] [] [] [(1000000, .any), (0, .yl [11]), (1, .ptr [0, 8] 0), (2, .ptr [6, 8] 0), (4, .i (runI (dgC s) s i)), (5, .i i), (6, .ptr [10, 1, 12] 0)] (b95_38 i out s) 45 (by kernel_rfl) ?_ ?_
                ·exact trivial
                exact gh_merge [0, 1, 2, 4, 5, 6] [[10, 1, 12], [0, 1, 12], [11], [10], [6, 8], [3, 8], [0, 8], [6], [2], [1], [0]] (by kernel_rfl) (Eq.trans (b := [([10, 1, 12], .row [.i 2, .tv (.str ⟨#[]⟩), .i 0, .i i, .i 4] false), ([0, 1, 12], .row (flat celT out) false), ([11], .loop [(1000000, .any), (2, .ptr [0] 0), (3, .ptr [1] 0), (4, .ptr [2] 0), (5, .ptr [6] 0), (11, .fn (.func 100) [.ptr [0, 8] 0, .ptr [6, 8] 0])] 35 [12] (fcode Tryd.f95 [1, 1, 1, 0, 1, 1, 0]) (fcode Tryd.f95 [1, 1, 1, 0, 1, 1, 1]) .ready none), ([10], .dfr), ([6, 8], .row [.fn (.func 99) [.ptr [0, 8] 0, .ptr [3, 8] 0]] false), ([3, 8], .row (flat (encK .u8) clsL) false), ([0, 8], .row [.tv (.str s)] false), ([6], .row [.sl [0, 1, 12] 4 0 out.length] false), ([2], .row [.i 0] false), ([1], .row [.i 0] false), ([0], .row [.tv .nils] false)]) (by kernel_rfl) (by simp only [hc91_2, cond_true, cond_false]; try rfl)) (by kernel_rfl)
               ·skip
                refine at_Bl [0, 1, 2, 4, 5, 6] [.std, .std, .std, .std, .ret (.tup [.i (atoiV (s.extract i.toNat (runI (dgC s) s i).toNat)), .tv .nili])] [(0 ≤ i ∧ i ≤ (runI (dgC s) s i) ∧ (runI (dgC s) s i) ≤ ((s.size : Nat) : Int)), PureCall Tryd.prog 101 [.tv (.str (s.extract i.toNat (runI (dgC s) s i).toNat))] (.tup [.i (atoiV (s.extract i.toNat (runI (dgC s) s i).toNat)), .tv .nili])] [(1000000, .any), (0, .yl [11]), (1, .ptr [0, 8] 0), (2, .ptr [6, 8] 0), (4, .i (runI (dgC s) s i)), (5, .i i), (6, .ptr [10, 1, 12] 0)] (b95_44 s i out) 54 (by kernel_rfl) ?_ ?_
                ·exact ⟨by (try simp only [lns] at *); omega, (c101 (s.extract i.toNat (runI (dgC s) s i).toNat) (atoi_1 hx0 q13_2 hc67_2) (atoi_2 hx0 q13_2 q9 hc91_2) (atoi_3 hx0 q13_2 hc67_2)), trivial⟩
                exact gh_merge [0, 1, 2, 4, 5, 6] [[10, 1, 12], [0, 1, 12], [11], [10], [6, 8], [3, 8], [0, 8], [6], [2], [1], [0]] (by kernel_rfl) (Eq.trans (b := [([10, 1, 12], .row [.i 2, .tv (.str ⟨#[]⟩), .i (atoiV (s.extract i.toNat (runI (dgC s) s i).toNat)), .i i, .i 0] false), ([0, 1, 12], .row (flat celT out) false), ([11], .loop [(1000000, .any), (2, .ptr [0] 0), (3, .ptr [1] 0), (4, .ptr [2] 0), (5, .ptr [6] 0), (11, .fn (.func 100) [.ptr [0, 8] 0, .ptr [6, 8] 0])] 35 [12] (fcode Tryd.f95 [1, 1, 1, 0, 1, 1, 0]) (fcode Tryd.f95 [1, 1, 1, 0, 1, 1, 1]) .ready none), ([10], .dfr), ([6, 8], .row [.fn (.func 99) [.ptr [0, 8] 0, .ptr [3, 8] 0]] false), ([3, 8], .row (flat (encK .u8) clsL) false), ([0, 8], .row [.tv (.str s)] false), ([6], .row [.sl [0, 1, 12] 4 0 out.length] false), ([2], .row [.i 0] false), ([1], .row [.i 0] false), ([0], .row [.tv .nils] false)]) (by kernel_rfl) (by simp only [hc91_2, cond_true, cond_false]; try rfl)) (by kernel_rfl)
              exact gh_merge [0, 1, 2, 4, 5, 6] [[10, 1, 12], [0, 1, 12], [11], [10], [6, 8], [3, 8], [0, 8], [6], [2], [1], [0]] (Eq.trans (b := [(1000000, .any), (0, .yl [11]), (1, .ptr [0, 8] 0), (2, .ptr [6, 8] 0), (4, .i (runI (dgC s) s i)), (5, .i i), (6, .ptr [10, 1, 12] 0)]) (by kernel_rfl) (by simp only [hc67_2, cond_true, cond_false]; try rfl)) (Eq.trans (b := [([10, 1, 12], .row [.i 2, .tv (.str ⟨#[]⟩), .i (bif (((decide ((7 : Int) < wr ((runI (dgC s) s i) - i))) || (decide ((atF s (runI (dgC s) s i)) = (3 : Int)))) || (decide ((atF s (runI (dgC s) s i)) = (5 : Int)))) then 0 else (atoiV (s.extract i.toNat (runI (dgC s) s i).toNat))), .i i, .i (bif (((decide ((7 : Int) < wr ((runI (dgC s) s i) - i))) || (decide ((atF s (runI (dgC s) s i)) = (3 : Int)))) || (decide ((atF s (runI (dgC s) s i)) = (5 : Int)))) then 4 else 0)] false), ([0, 1, 12], .row (flat celT out) false), ([11], .loop [(1000000, .any), (2, .ptr [0] 0), (3, .ptr [1] 0), (4, .ptr [2] 0), (5, .ptr [6] 0), (11, .fn (.func 100) [.ptr [0, 8] 0, .ptr [6, 8] 0])] 35 [12] (fcode Tryd.f95 [1, 1, 1, 0, 1, 1, 0]) (fcode Tryd.f95 [1, 1, 1, 0, 1, 1, 1]) .ready none), ([10], .dfr), ([6, 8], .row [.fn (.func 99) [.ptr [0, 8] 0, .ptr [3, 8] 0]] false), ([3, 8], .row (flat (encK .u8) clsL) false), ([0, 8], .row [.tv (.str s)] false), ([6], .row [.sl [0, 1, 12] 4 0 out.length] false), ([2], .row [.i 0] false), ([1], .row [.i 0] false), ([0], .row [.tv .nils] false)]) (by kernel_rfl) (by simp only [hc67_2, cond_true, cond_false]; try rfl)) (by kernel_rfl)
           ·skip
            refine at_seq ?_
            refine at_B [0, 1, 2, 4, 5, 6, 20, 103] [] [] [(1000000, .any), (0, .yl [11]), (1, .ptr [0, 8] 0), (2, .ptr [6, 8] 0), (4, .i i), (5, .i i), (6, .ptr [10, 1, 12] 0), (20, .tv (.int .u8 (atF s i))), (103, .b (decide ((atF s i) = (6 : Int))))] (b95_23 i out s) 25 (by kernel_rfl) ?_ ?_
            ·exact trivial
            refine at_mergel (p := [1, 12]) [(1000000, .any), (0, .yl [11]), (1, .ptr [0, 8] 0), (2, .ptr [6, 8] 0), (4, .i i), (5, .i i), (6, .ptr [10, 1, 12] 0), (103, .b (bif (decide ((atF s i) = (6 : Int))) then (decide ((atF s i) = (6 : Int))) else (bif (decide ((atF s i) = (7 : Int))) then (decide ((atF s i) = (7 : Int))) else (decide ((atF s i) = (8 : Int))))))] [([10, 1, 12], .row [.i 0, .tv (.str ⟨#[]⟩), .i 0, .i i, .i 0] false), ([0, 1, 12], .row (flat celT out) false), ([11], .loop [(1000000, .any), (2, .ptr [0] 0), (3, .ptr [1] 0), (4, .ptr [2] 0), (5, .ptr [6] 0), (11, .fn (.func 100) [.ptr [0, 8] 0, .ptr [6, 8] 0])] 35 [12] (fcode Tryd.f95 [1, 1, 1, 0, 1, 1, 0]) (fcode Tryd.f95 [1, 1, 1, 0, 1, 1, 1]) .ready none), ([10], .dfr), ([6, 8], .row [.fn (.func 99) [.ptr [0, 8] 0, .ptr [3, 8] 0]] false), ([3, 8], .row (flat (encK .u8) clsL) false), ([0, 8], .row [.tv (.str s)] false), ([6], .row [.sl [0, 1, 12] 4 0 out.length] false), ([2], .row [.i 0] false), ([1], .row [.i 0] false), ([0], .row [.tv .nils] false)] 29 ?_ ?_
            ·refine at_cond (b := (decide ((atF s i) = (6 : Int)))) rfl rfl (fun hc103_2 => ?_) (fun hc103_2 => ?_)
             ·skip
              refine at_skip ?_
              exact gh_merge [0, 1, 2, 4, 5, 6, 103] [[10, 1, 12], [0, 1, 12], [11], [10], [6, 8], [3, 8], [0, 8], [6], [2], [1], [0]] (Eq.trans (b := [(1000000, .any), (0, .yl [11]), (1, .ptr [0, 8] 0), (2, .ptr [6, 8] 0), (4, .i i), (5, .i i), (6, .ptr [10, 1, 12] 0), (103, .b (decide ((atF s i) = (6 : Int))))]) (by kernel_rfl) (by simp only [hc103_2, cond_true, cond_false]; try rfl)) (by kernel_rfl) (by kernel_rfl)
             ·skip
              refine at_B [0, 1, 2, 4, 5, 6, 20, 103] [] [] [(1000000, .any), (0, .yl [11]), (1, .ptr [0, 8] 0), (2, .ptr [6, 8] 0), (4, .i i), (5, .i i), (6, .ptr [10, 1, 12] 0), (20, .tv (.int .u8 (atF s i))), (103, .b (decide ((atF s i) = (7 : Int))))] (b95_23 i out s) 27 (by kernel_rfl) ?_ ?_
              ·exact trivial
              refine at_mergel (p := [1, 12]) [(1000000, .any), (0, .yl [11]), (1, .ptr [0, 8] 0), (2, .ptr [6, 8] 0), (4, .i i), (5, .i i), (6, .ptr [10, 1, 12] 0), (103, .b (bif (decide ((atF s i) = (7 : Int))) then (decide ((atF s i) = (7 : Int))) else (decide ((atF s i) = (8 : Int)))))] [([10, 1, 12], .row [.i 0, .tv (.str ⟨#[]⟩), .i 0, .i i, .i 0] false), ([0, 1, 12], .row (flat celT out) false), ([11], .loop [(1000000, .any), (2, .ptr [0] 0), (3, .ptr [1] 0), (4, .ptr [2] 0), (5, .ptr [6] 0), (11, .fn (.func 100) [.ptr [0, 8] 0, .ptr [6, 8] 0])] 35 [12] (fcode Tryd.f95 [1, 1, 1, 0, 1, 1, 0]) (fcode Tryd.f95 [1, 1, 1, 0, 1, 1, 1]) .ready none), ([10], .dfr), ([6, 8], .row [.fn (.func 99) [.ptr [0, 8] 0, .ptr [3, 8] 0]] false), ([3, 8], .row (flat (encK .u8) clsL) false), ([0, 8], .row [.tv (.str s)] false), ([6], .row [.sl [0, 1, 12] 4 0 out.length] false), ([2], .row [.i 0] false), ([1], .row [.i 0] false), ([0], .row [.tv .nils] false)] 29 ?_ ?_
              ·refine at_cond (b := (decide ((atF s i) = (7 : Int)))) rfl rfl (fun hc103_2 => ?_) (fun hc103_2 => ?_)
               ·skip
                refine at_skip ?_
                exact gh_merge [0, 1, 2, 4, 5, 6, 103] [[10, 1, 12], [0, 1, 12], [11], [10], [6, 8], [3, 8], [0, 8], [6], [2], [1], [0]] (Eq.trans (b := [(1000000, .any), (0, .yl [11]), (1, .ptr [0, 8] 0), (2, .ptr [6, 8] 0), (4, .i i), (5, .i i), (6, .ptr [10, 1, 12] 0), (103, .b (decide ((atF s i) = (7 : Int))))]) (by kernel_rfl) (by simp only [hc103_2, cond_true, cond_false]; try rfl)) (by kernel_rfl) (by kernel_rfl)
               ·skip
                refine at_Bl [0, 1, 2, 4, 5, 6, 103] [] [] [(1000000, .any), (0, .yl [11]), (1, .ptr [0, 8] 0), (2, .ptr [6, 8] 0), (4, .i i), (5, .i i), (6, .ptr [10, 1, 12] 0), (103, .b (decide ((atF s i) = (8 : Int))))] (b95_23 i out s) 29 (by kernel_rfl) ?_ ?_
                ·exact trivial
                exact gh_merge [0, 1, 2, 4, 5, 6, 103] [[10, 1, 12], [0, 1, 12], [11], [10], [6, 8], [3, 8], [0, 8], [6], [2], [1], [0]] (Eq.trans (b := [(1000000, .any), (0, .yl [11]), (1, .ptr [0, 8] 0), (2, .ptr [6, 8] 0), (4, .i i), (5, .i i), (6, .ptr [10, 1, 12] 0), (103, .b (decide ((atF s i) = (8 : Int))))]) (by kernel_rfl) (by simp only [hc103_2, cond_true, cond_false]; try rfl)) (by kernel_rfl) (by kernel_rfl)
              exact gh_merge [0, 1, 2, 4, 5, 6, 103] [[10, 1, 12], [0, 1, 12], [11], [10], [6, 8], [3, 8], [0, 8], [6], [2], [1], [0]] (Eq.trans (b := [(1000000, .any), (0, .yl [11]), (1, .ptr [0, 8] 0), (2, .ptr [6, 8] 0), (4, .i i), (5, .i i), (6, .ptr [10, 1, 12] 0), (103, .b (bif (decide ((atF s i) = (7 : Int))) then (decide ((atF s i) = (7 : Int))) else (decide ((atF s i) = (8 : Int)))))]) (by kernel_rfl) (by simp only [hc103_2, cond_true, cond_false]; try rfl)) (by kernel_rfl) (by kernel_rfl)
            change AT _ _ _ _
            refine at_mergel (p := [1, 12]) [(1000000, .any), (0, .yl [11]), (1, .ptr [0, 8] 0), (2, .ptr [6, 8] 0), (4, .i (bif (bif (decide ((atF s i) = (6 : Int))) then (decide ((atF s i) = (6 : Int))) else (bif (decide ((atF s i) = (7 : Int))) then (decide ((atF s i) = (7 : Int))) else (decide ((atF s i) = (8 : Int))))) then (bif (((!decide ((atF s i) = (6 : Int))) && (decide (wr (i + 1) < ((s.size : Nat) : Int)))) && (decide (sbyte s (wr (i + 1)) = (61 : Int)))) then wr ((wr (i + 1)) + 1) else wr (i + 1)) else i)), (5, .i i), (6, .ptr [10, 1, 12] 0)] [([10, 1, 12], .row [.i (bif (bif (decide ((atF s i) = (6 : Int))) then (decide ((atF s i) = (6 : Int))) else (bif (decide ((atF s i) = (7 : Int))) then (decide ((atF s i) = (7 : Int))) else (decide ((atF s i) = (8 : Int))))) then 3 else 0), .tv (.str ⟨#[]⟩), .i 0, .i i, .i (bif (bif (decide ((atF s i) = (6 : Int))) then (decide ((atF s i) = (6 : Int))) else (bif (decide ((atF s i) = (7 : Int))) then (decide ((atF s i) = (7 : Int))) else (decide ((atF s i) = (8 : Int))))) then (bif (((!decide ((atF s i) = (6 : Int))) && (decide (wr (i + 1) < ((s.size : Nat) : Int)))) && (decide (sbyte s (wr (i + 1)) = (61 : Int)))) then 0 else (bif (decide ((atF s i) = (8 : Int))) then 3 else 0)) else 3)] false), ([0, 1, 12], .row (flat celT out) false), ([11], .loop [(1000000, .any), (2, .ptr [0] 0), (3, .ptr [1] 0), (4, .ptr [2] 0), (5, .ptr [6] 0), (11, .fn (.func 100) [.ptr [0, 8] 0, .ptr [6, 8] 0])] 35 [12] (fcode Tryd.f95 [1, 1, 1, 0, 1, 1, 0]) (fcode Tryd.f95 [1, 1, 1, 0, 1, 1, 1]) .ready none), ([10], .dfr), ([6, 8], .row [.fn (.func 99) [.ptr [0, 8] 0, .ptr [3, 8] 0]] false), ([3, 8], .row (flat (encK .u8) clsL) false), ([0, 8], .row [.tv (.str s)] false), ([6], .row [.sl [0, 1, 12] 4 0 out.length] false), ([2], .row [.i 0] false), ([1], .row [.i 0] false), ([0], .row [.tv .nils] false)] 57 ?_ ?_
            ·refine at_cond (b := (bif (decide ((atF s i) = (6 : Int))) then (decide ((atF s i) = (6 : Int))) else (bif (decide ((atF s i) = (7 : Int))) then (decide ((atF s i) = (7 : Int))) else (decide ((atF s i) = (8 : Int)))))) rfl rfl (fun hc103_2 => ?_) (fun hc103_2 => ?_)
             ·skip
              refine at_B [0, 1, 2, 4, 5, 6] [] [] [(1000000, .any), (0, .yl [11]), (1, .ptr [0, 8] 0), (2, .ptr [6, 8] 0), (4, .i i), (5, .i i), (6, .ptr [10, 1, 12] 0)] (b95_26 i out s) 32 (by kernel_rfl) ?_ ?_
              ·exact trivial
              refine at_B [0, 1, 2, 4, 5, 6] [] [] [(1000000, .any), (0, .yl [11]), (1, .ptr [0, 8] 0), (2, .ptr [6, 8] 0), (4, .i (wr (i + 1))), (5, .i i), (6, .ptr [10, 1, 12] 0)] (b95_26 i out s) 35 (by kernel_rfl) ?_ ?_
              ·exact trivial
              refine at_B [0, 1, 2, 4, 5, 6, 9] [.std, .std, .retS (.tv (.int .u8 (atF s i)))] [StabCall Tryd.prog 99 [.i i, .ptr [0, 8] 0, .ptr [3, 8] 0] (b95_26 i out s) (.tv (.int .u8 (atF s i)))] [(1000000, .any), (0, .yl [11]), (1, .ptr [0, 8] 0), (2, .ptr [6, 8] 0), (4, .i (wr (i + 1))), (5, .i i), (6, .ptr [10, 1, 12] 0), (9, .tv (.int .u8 (atF s i)))] (b95_26 i out s) 39 (by kernel_rfl) ?_ ?_
              ·exact ⟨StabCall.mono (H := (b95_33 s)) (stab_mv (args := [.i i, .ptr [0] 0, .ptr [1] 0]) (H := (b95_41 s)) (H2 := (b95_33 s)) (q := [50]) [([0, 8], [0]), ([3, 8], [1])] [([0], [0, 8]), ([1], [3, 8])] [[3, 8]] [[1]] ((c99 i s (by (try simp only [brs, lns] at *); omega)) _ _ (fun _ _ h => h)) (by kernel_rfl) (by kernel_rfl) (⟨clO_flat _ _ _, trivial⟩) (by kernel_rfl) (by kernel_rfl) (⟨clO_flat _ _ _, trivial⟩)) (sub_cons (by kernel_rfl) (sub_cons (by kernel_rfl) sub_nil)), trivial⟩
              have hw1 : wr (i + 1) = i + 1 := wr_ok (by omega) (by omega)
              refine at_B [0, 1, 2, 4, 5, 6, 9, 127] [] [(((!decide ((atF s i) = (6 : Int))) && (decide (wr (i + 1) < ((s.size : Nat) : Int)))) = true) → (0 ≤ wr (i + 1) ∧ wr (i + 1) < ((s.size : Nat) : Int))] [(1000000, .any), (0, .yl [11]), (1, .ptr [0, 8] 0), (2, .ptr [6, 8] 0), (4, .i (wr (i + 1))), (5, .i i), (6, .ptr [10, 1, 12] 0), (9, .tv (.int .u8 (atF s i))), (127, .b (((!decide ((atF s i) = (6 : Int))) && (decide (wr (i + 1) < ((s.size : Nat) : Int)))) && (decide (sbyte s (wr (i + 1)) = (61 : Int)))))] (b95_26 i out s) 53 (by kernel_rfl) ?_ ?_
              ·exact ⟨fun hg0 => by (try simp only [brs, lns] at *); omega, trivial⟩
              refine at_mergel (p := [1, 12]) [(1000000, .any), (0, .yl [11]), (1, .ptr [0, 8] 0), (2, .ptr [6, 8] 0), (4, .i (bif (((!decide ((atF s i) = (6 : Int))) && (decide (wr (i + 1) < ((s.size : Nat) : Int)))) && (decide (sbyte s (wr (i + 1)) = (61 : Int)))) then wr ((wr (i + 1)) + 1) else wr (i + 1))), (5, .i i), (6, .ptr [10, 1, 12] 0)] [([10, 1, 12], .row [.i 3, .tv (.str ⟨#[]⟩), .i 0, .i i, .i (bif (((!decide ((atF s i) = (6 : Int))) && (decide (wr (i + 1) < ((s.size : Nat) : Int)))) && (decide (sbyte s (wr (i + 1)) = (61 : Int)))) then 0 else (bif (decide ((atF s i) = (8 : Int))) then 3 else 0))] false), ([0, 1, 12], .row (flat celT out) false), ([11], .loop [(1000000, .any), (2, .ptr [0] 0), (3, .ptr [1] 0), (4, .ptr [2] 0), (5, .ptr [6] 0), (11, .fn (.func 100) [.ptr [0, 8] 0, .ptr [6, 8] 0])] 35 [12] (fcode Tryd.f95 [1, 1, 1, 0, 1, 1, 0]) (fcode Tryd.f95 [1, 1, 1, 0, 1, 1, 1]) .ready none), ([10], .dfr), ([6, 8], .row [.fn (.func 99) [.ptr [0, 8] 0, .ptr [3, 8] 0]] false), ([3, 8], .row (flat (encK .u8) clsL) false), ([0, 8], .row [.tv (.str s)] false), ([6], .row [.sl [0, 1, 12] 4 0 out.length] false), ([2], .row [.i 0] false), ([1], .row [.i 0] false), ([0], .row [.tv .nils] false)] 57 ?_ ?_
              ·refine at_cond (b := (((!decide ((atF s i) = (6 : Int))) && (decide (wr (i + 1) < ((s.size : Nat) : Int)))) && (decide (sbyte s (wr (i + 1)) = (61 : Int))))) rfl rfl (fun hc127_2 => ?_) (fun hc127_2 => ?_)
               ·skip
                refine at_Bl [0, 1, 2, 4, 5, 6] [] [] [(1000000, .any), (0, .yl [11]), (1, .ptr [0, 8] 0), (2, .ptr [6, 8] 0), (4, .i (wr ((wr (i + 1)) + 1))), (5, .i i), (6, .ptr [10, 1, 12] 0)] (b95_26 i out s) 56 (by kernel_rfl) ?_ ?_
                ·exact trivial
                exact gh_merge [0, 1, 2, 4, 5, 6] [[10, 1, 12], [0, 1, 12], [11], [10], [6, 8], [3, 8], [0, 8], [6], [2], [1], [0]] (Eq.trans (b := [(1000000, .any), (0, .yl [11]), (1, .ptr [0, 8] 0), (2, .ptr [6, 8] 0), (4, .i (wr ((wr (i + 1)) + 1))), (5, .i i), (6, .ptr [10, 1, 12] 0)]) (by kernel_rfl) (by simp only [hc127_2, cond_true, cond_false]; try rfl)) (Eq.trans (b := [([10, 1, 12], .row [.i 3, .tv (.str ⟨#[]⟩), .i 0, .i i, .i 0] false), ([0, 1, 12], .row (flat celT out) false), ([11], .loop [(1000000, .any), (2, .ptr [0] 0), (3, .ptr [1] 0), (4, .ptr [2] 0), (5, .ptr [6] 0), (11, .fn (.func 100) [.ptr [0, 8] 0, .ptr [6, 8] 0])] 35 [12] (fcode Tryd.f95 [1, 1, 1, 0, 1, 1, 0]) (fcode Tryd.f95 [1, 1, 1, 0, 1, 1, 1]) .ready none), ([10], .dfr), ([6, 8], .row [.fn (.func 99) [.ptr [0, 8] 0, .ptr [3, 8] 0]] false), ([3, 8], .row (flat (encK .u8) clsL) false), ([0, 8], .row [.tv (.str s)] false), ([6], .row [.sl [0, 1, 12] 4 0 out.length] false), ([2], .row [.i 0] false), ([1], .row [.i 0] false), ([0], .row [.tv .nils] false)]) (by kernel_rfl) (by simp only [hc127_2, cond_true, cond_false]; try rfl)) (by kernel_rfl)
               ·skip
                refine at_B [0, 1, 2, 4, 5, 6, 131] [] [] [(1000000, .any), (0, .yl [11]), (1, .ptr [0, 8] 0), (2, .ptr [6, 8] 0), (4, .i (wr (i + 1))), (5, .i i), (6, .ptr [10, 1, 12] 0), (131, .b (decide ((atF s i) = (8 : Int))))] (b95_26 i out s) 55 (by kernel_rfl) ?_ ?_
                ·exact trivial
                refine at_mergel (p := [1, 12]) [(1000000, .any), (0, .yl [11]), (1, .ptr [0, 8] 0), (2, .ptr [6, 8] 0), (4, .i (wr (i + 1))), (5, .i i), (6, .ptr [10, 1, 12] 0)] [([10, 1, 12], .row [.i 3, .tv (.str ⟨#[]⟩), .i 0, .i i, .i (bif (decide ((atF s i) = (8 : Int))) then 3 else 0)] false), ([0, 1, 12], .row (flat celT out) false), ([11], .loop [(1000000, .any), (2, .ptr [0] 0), (3, .ptr [1] 0), (4, .ptr [2] 0), (5, .ptr [6] 0), (11, .fn (.func 100) [.ptr [0, 8] 0, .ptr [6, 8] 0])] 35 [12] (fcode Tryd.f95 [1, 1, 1, 0, 1, 1, 0]) (fcode Tryd.f95 [1, 1, 1, 0, 1, 1, 1]) .ready none), ([10], .dfr), ([6, 8], .row [.fn (.func 99) [.ptr [0, 8] 0, .ptr [3, 8] 0]] false), ([3, 8], .row (flat (encK .u8) clsL) false), ([0, 8], .row [.tv (.str s)] false), ([6], .row [.sl [0, 1, 12] 4 0 out.length] false), ([2], .row [.i 0] false), ([1], .row [.i 0] false), ([0], .row [.tv .nils] false)] 57 ?_ ?_
                ·refine at_cond (b := (decide ((atF s i) = (8 : Int)))) rfl rfl (fun hc131_2 => ?_) (fun hc131_2 => ?_)
                 ·skip
                  refine at_Bl [0, 1, 2, 4, 5, 6] [] [] [(1000000, .any), (0, .yl [11]), (1, .ptr [0, 8] 0), (2, .ptr [6, 8] 0), (4, .i (wr (i + 1))), (5, .i i), (6, .ptr [10, 1, 12] 0)] (b95_39 i out s) 57 (by kernel_rfl) ?_ ?_
                  ·exact trivial
                  exact gh_merge [0, 1, 2, 4, 5, 6] [[10, 1, 12], [0, 1, 12], [11], [10], [6, 8], [3, 8], [0, 8], [6], [2], [1], [0]] (by kernel_rfl) (Eq.trans (b := [([10, 1, 12], .row [.i 3, .tv (.str ⟨#[]⟩), .i 0, .i i, .i 3] false), ([0, 1, 12], .row (flat celT out) false), ([11], .loop [(1000000, .any), (2, .ptr [0] 0), (3, .ptr [1] 0), (4, .ptr [2] 0), (5, .ptr [6] 0), (11, .fn (.func 100) [.ptr [0, 8] 0, .ptr [6, 8] 0])] 35 [12] (fcode Tryd.f95 [1, 1, 1, 0, 1, 1, 0]) (fcode Tryd.f95 [1, 1, 1, 0, 1, 1, 1]) .ready none), ([10], .dfr), ([6, 8], .row [.fn (.func 99) [.ptr [0, 8] 0, .ptr [3, 8] 0]] false), ([3, 8], .row (flat (encK .u8) clsL) false), ([0, 8], .row [.tv (.str s)] false), ([6], .row [.sl [0, 1, 12] 4 0 out.length] false), ([2], .row [.i 0] false), ([1], .row [.i 0] false), ([0], .row [.tv .nils] false)]) (by kernel_rfl) (by simp only [hc131_2, cond_true, cond_false]; try rfl)) (by kernel_rfl)
                 ·skip
                  refine at_skip ?_
                  exact gh_merge [0, 1, 2, 4, 5, 6] [[10, 1, 12], [0, 1, 12], [11], [10], [6, 8], [3, 8], [0, 8], [6], [2], [1], [0]] (by kernel_rfl) (Eq.trans (b := [([10, 1, 12], .row [.i 3, .tv (.str ⟨#[]⟩), .i 0, .i i, .i 0] false), ([0, 1, 12], .row (flat celT out) false), ([11], .loop [(1000000, .any), (2, .ptr [0] 0), (3, .ptr [1] 0), (4, .ptr [2] 0), (5, .ptr [6] 0), (11, .fn (.func 100) [.ptr [0, 8] 0, .ptr [6, 8] 0])] 35 [12] (fcode Tryd.f95 [1, 1, 1, 0, 1, 1, 0]) (fcode Tryd.f95 [1, 1, 1, 0, 1, 1, 1]) .ready none), ([10], .dfr), ([6, 8], .row [.fn (.func 99) [.ptr [0, 8] 0, .ptr [3, 8] 0]] false), ([3, 8], .row (flat (encK .u8) clsL) false), ([0, 8], .row [.tv (.str s)] false), ([6], .row [.sl [0, 1, 12] 4 0 out.length] false), ([2], .row [.i 0] false), ([1], .row [.i 0] false), ([0], .row [.tv .nils] false)]) (by kernel_rfl) (by simp only [hc131_2, cond_true, cond_false]; try rfl)) (by kernel_rfl)
                exact gh_merge [0, 1, 2, 4, 5, 6] [[10, 1, 12], [0, 1, 12], [11], [10], [6, 8], [3, 8], [0, 8], [6], [2], [1], [0]] (Eq.trans (b := [(1000000, .any), (0, .yl [11]), (1, .ptr [0, 8] 0), (2, .ptr [6, 8] 0), (4, .i (wr (i + 1))), (5, .i i), (6, .ptr [10, 1, 12] 0)]) (by kernel_rfl) (by simp only [hc127_2, cond_true, cond_false]; try rfl)) (Eq.trans (b := [([10, 1, 12], .row [.i 3, .tv (.str ⟨#[]⟩), .i 0, .i i, .i (bif (decide ((atF s i) = (8 : Int))) then 3 else 0)] false), ([0, 1, 12], .row (flat celT out) false), ([11], .loop [(1000000, .any), (2, .ptr [0] 0), (3, .ptr [1] 0), (4, .ptr [2] 0), (5, .ptr [6] 0), (11, .fn (.func 100) [.ptr [0, 8] 0, .ptr [6, 8] 0])] 35 [12] (fcode Tryd.f95 [1, 1, 1, 0, 1, 1, 0]) (fcode Tryd.f95 [1, 1, 1, 0, 1, 1, 1]) .ready none), ([10], .dfr), ([6, 8], .row [.fn (.func 99) [.ptr [0, 8] 0, .ptr [3, 8] 0]] false), ([3, 8], .row (flat (encK .u8) clsL) false), ([0, 8], .row [.tv (.str s)] false), ([6], .row [.sl [0, 1, 12] 4 0 out.length] false), ([2], .row [.i 0] false), ([1], .row [.i 0] false), ([0], .row [.tv .nils] false)]) (by kernel_rfl) (by simp only [hc127_2, cond_true, cond_false]; try rfl)) (by kernel_rfl)
              exact gh_merge [0, 1, 2, 4, 5, 6] [[10, 1, 12], [0, 1, 12], [11], [10], [6, 8], [3, 8], [0, 8], [6], [2], [1], [0]] (Eq.trans (b := [(1000000, .any), (0, .yl [11]), (1, .ptr [0, 8] 0), (2, .ptr [6, 8] 0), (4, .i (bif (((!decide ((atF s i) = (6 : Int))) && (decide (wr (i + 1) < ((s.size : Nat) : Int)))) && (decide (sbyte s (wr (i + 1)) = (61 : Int)))) then wr ((wr (i + 1)) + 1) else wr (i + 1))), (5, .i i), (6, .ptr [10, 1, 12] 0)]) (by kernel_rfl) (by simp only [hc103_2, cond_true, cond_false]; try rfl)) (Eq.trans (b := [([10, 1, 12], .row [.i 3, .tv (.str ⟨#[]⟩), .i 0, .i i, .i (bif (((!decide ((atF s i) = (6 : Int))) && (decide (wr (i + 1) < ((s.size : Nat) : Int)))) && (decide (sbyte s (wr (i + 1)) = (61 : Int)))) then 0 else (bif (decide ((atF s i) = (8 : Int))) then 3 else 0))] false), ([0, 1, 12], .row (flat celT out) false), ([11], .loop [(1000000, .any), (2, .ptr [0] 0), (3, .ptr [1] 0), (4, .ptr [2] 0), (5, .ptr [6] 0), (11, .fn (.func 100) [.ptr [0, 8] 0, .ptr [6, 8] 0])] 35 [12] (fcode Tryd.f95 [1, 1, 1, 0, 1, 1, 0]) (fcode Tryd.f95 [1, 1, 1, 0, 1, 1, 1]) .ready none), ([10], .dfr), ([6, 8], .row [.fn (.func 99) [.ptr [0, 8] 0, .ptr [3, 8] 0]] false), ([3, 8], .row (flat (encK .u8) clsL) false), ([0, 8], .row [.tv (.str s)] false), ([6], .row [.sl [0, 1, 12] 4 0 out.length] false), ([2], .row [.i 0] false), ([1], .row [.i 0] false), ([0], .row [.tv .nils] false)]) (by kernel_rfl) (by simp only [hc103_2, cond_true, cond_false]; try rfl)) (by kernel_rfl)
             ·skip
              refine at_Bl [0, 1, 2, 4, 5, 6] [] [] [(1000000, .any), (0, .yl [11]), (1, .ptr [0, 8] 0), (2, .ptr [6, 8] 0), (4, .i i), (5, .i i), (6, .ptr [10, 1, 12] 0)] (b95_40 i out s) 31 (by kernel_rfl) ?_ ?_
              ·exact trivial
              exact gh_merge [0, 1, 2, 4, 5, 6] [[10, 1, 12], [0, 1, 12], [11], [10], [6, 8], [3, 8], [0, 8], [6], [2], [1], [0]] (Eq.trans (b := [(1000000, .any), (0, .yl [11]), (1, .ptr [0, 8] 0), (2, .ptr [6, 8] 0), (4, .i i), (5, .i i), (6, .ptr [10, 1, 12] 0)]) (by kernel_rfl) (by simp only [hc103_2, cond_true, cond_false]; try rfl)) (Eq.trans (b := [([10, 1, 12], .row [.i 0, .tv (.str ⟨#[]⟩), .i 0, .i i, .i 3] false), ([0, 1, 12], .row (flat celT out) false), ([11], .loop [(1000000, .any), (2, .ptr [0] 0), (3, .ptr [1] 0), (4, .ptr [2] 0), (5, .ptr [6] 0), (11, .fn (.func 100) [.ptr [0, 8] 0, .ptr [6, 8] 0])] 35 [12] (fcode Tryd.f95 [1, 1, 1, 0, 1, 1, 0]) (fcode Tryd.f95 [1, 1, 1, 0, 1, 1, 1]) .ready none), ([10], .dfr), ([6, 8], .row [.fn (.func 99) [.ptr [0, 8] 0, .ptr [3, 8] 0]] false), ([3, 8], .row (flat (encK .u8) clsL) false), ([0, 8], .row [.tv (.str s)] false), ([6], .row [.sl [0, 1, 12] 4 0 out.length] false), ([2], .row [.i 0] false), ([1], .row [.i 0] false), ([0], .row [.tv .nils] false)]) (by kernel_rfl) (by simp only [hc103_2, cond_true, cond_false]; try rfl)) (by kernel_rfl)
            exact gh_merge [0, 1, 2, 4, 5, 6] [[10, 1, 12], [0, 1, 12], [11], [10], [6, 8], [3, 8], [0, 8], [6], [2], [1], [0]] (Eq.trans (b := [(1000000, .any), (0, .yl [11]), (1, .ptr [0, 8] 0), (2, .ptr [6, 8] 0), (4, .i (bif (bif (decide ((atF s i) = (6 : Int))) then (decide ((atF s i) = (6 : Int))) else (bif (decide ((atF s i) = (7 : Int))) then (decide ((atF s i) = (7 : Int))) else (decide ((atF s i) = (8 : Int))))) then (bif (((!decide ((atF s i) = (6 : Int))) && (decide (wr (i + 1) < ((s.size : Nat) : Int)))) && (decide (sbyte s (wr (i + 1)) = (61 : Int)))) then wr ((wr (i + 1)) + 1) else wr (i + 1)) else i)), (5, .i i), (6, .ptr [10, 1, 12] 0)]) (by kernel_rfl) (by simp only [hc67_2, cond_true, cond_false]; try rfl)) (Eq.trans (b := [([10, 1, 12], .row [.i (bif (bif (decide ((atF s i) = (6 : Int))) then (decide ((atF s i) = (6 : Int))) else (bif (decide ((atF s i) = (7 : Int))) then (decide ((atF s i) = (7 : Int))) else (decide ((atF s i) = (8 : Int))))) then 3 else 0), .tv (.str ⟨#[]⟩), .i 0, .i i, .i (bif (bif (decide ((atF s i) = (6 : Int))) then (decide ((atF s i) = (6 : Int))) else (bif (decide ((atF s i) = (7 : Int))) then (decide ((atF s i) = (7 : Int))) else (decide ((atF s i) = (8 : Int))))) then (bif (((!decide ((atF s i) = (6 : Int))) && (decide (wr (i + 1) < ((s.size : Nat) : Int)))) && (decide (sbyte s (wr (i + 1)) = (61 : Int)))) then 0 else (bif (decide ((atF s i) = (8 : Int))) then 3 else 0)) else 3)] false), ([0, 1, 12], .row (flat celT out) false), ([11], .loop [(1000000, .any), (2, .ptr [0] 0), (3, .ptr [1] 0), (4, .ptr [2] 0), (5, .ptr [6] 0), (11, .fn (.func 100) [.ptr [0, 8] 0, .ptr [6, 8] 0])] 35 [12] (fcode Tryd.f95 [1, 1, 1, 0, 1, 1, 0]) (fcode Tryd.f95 [1, 1, 1, 0, 1, 1, 1]) .ready none), ([10], .dfr), ([6, 8], .row [.fn (.func 99) [.ptr [0, 8] 0, .ptr [3, 8] 0]] false), ([3, 8], .row (flat (encK .u8) clsL) false), ([0, 8], .row [.tv (.str s)] false), ([6], .row [.sl [0, 1, 12] 4 0 out.length] false), ([2], .row [.i 0] false), ([1], .row [.i 0] false), ([0], .row [.tv .nils] false)]) (by kernel_rfl) (by simp only [hc67_2, cond_true, cond_false]; try rfl)) (by kernel_rfl)
          exact gh_merge [0, 1, 2, 4, 5, 6] [[10, 1, 12], [0, 1, 12], [11], [10], [6, 8], [3, 8], [0, 8], [6], [2], [1], [0]] (Eq.trans (b := [(1000000, .any), (0, .yl [11]), (1, .ptr [0, 8] 0), (2, .ptr [6, 8] 0), (4, .i (bif (decide ((atF s i) = (4 : Int))) then (runI (dgC s) s i) else (bif (bif (decide ((atF s i) = (6 : Int))) then (decide ((atF s i) = (6 : Int))) else (bif (decide ((atF s i) = (7 : Int))) then (decide ((atF s i) = (7 : Int))) else (decide ((atF s i) = (8 : Int))))) then (bif (((!decide ((atF s i) = (6 : Int))) && (decide (wr (i + 1) < ((s.size : Nat) : Int)))) && (decide (sbyte s (wr (i + 1)) = (61 : Int)))) then wr ((wr (i + 1)) + 1) else wr (i + 1)) else i))), (5, .i i), (6, .ptr [10, 1, 12] 0)]) (by kernel_rfl) (by simp only [hc40_2, cond_true, cond_false]; try rfl)) (Eq.trans (b := [([10, 1, 12], .row [.i (bif (decide ((atF s i) = (4 : Int))) then 2 else (bif (bif (decide ((atF s i) = (6 : Int))) then (decide ((atF s i) = (6 : Int))) else (bif (decide ((atF s i) = (7 : Int))) then (decide ((atF s i) = (7 : Int))) else (decide ((atF s i) = (8 : Int))))) then 3 else 0)), .tv (.str ⟨#[]⟩), .i (bif (decide ((atF s i) = (4 : Int))) then (bif (((decide ((7 : Int) < wr ((runI (dgC s) s i) - i))) || (decide ((atF s (runI (dgC s) s i)) = (3 : Int)))) || (decide ((atF s (runI (dgC s) s i)) = (5 : Int)))) then 0 else (atoiV (s.extract i.toNat (runI (dgC s) s i).toNat))) else 0), .i i, .i (bif (decide ((atF s i) = (4 : Int))) then (bif (((decide ((7 : Int) < wr ((runI (dgC s) s i) - i))) || (decide ((atF s (runI (dgC s) s i)) = (3 : Int)))) || (decide ((atF s (runI (dgC s) s i)) = (5 : Int)))) then 4 else 0) else (bif (bif (decide ((atF s i) = (6 : Int))) then (decide ((atF s i) = (6 : Int))) else (bif (decide ((atF s i) = (7 : Int))) then (decide ((atF s i) = (7 : Int))) else (decide ((atF s i) = (8 : Int))))) then (bif (((!decide ((atF s i) = (6 : Int))) && (decide (wr (i + 1) < ((s.size : Nat) : Int)))) && (decide (sbyte s (wr (i + 1)) = (61 : Int)))) then 0 else (bif (decide ((atF s i) = (8 : Int))) then 3 else 0)) else 3))] false), ([0, 1, 12], .row (flat celT out) false), ([11], .loop [(1000000, .any), (2, .ptr [0] 0), (3, .ptr [1] 0), (4, .ptr [2] 0), (5, .ptr [6] 0), (11, .fn (.func 100) [.ptr [0, 8] 0, .ptr [6, 8] 0])] 35 [12] (fcode Tryd.f95 [1, 1, 1, 0, 1, 1, 0]) (fcode Tryd.f95 [1, 1, 1, 0, 1, 1, 1]) .ready none), ([10], .dfr), ([6, 8], .row [.fn (.func 99) [.ptr [0, 8] 0, .ptr [3, 8] 0]] false), ([3, 8], .row (flat (encK .u8) clsL) false), ([0, 8], .row [.tv (.str s)] false), ([6], .row [.sl [0, 1, 12] 4 0 out.length] false), ([2], .row [.i 0] false), ([1], .row [.i 0] false), ([0], .row [.tv .nils] false)]) (by kernel_rfl) (by simp only [hc40_2, cond_true, cond_false]; try rfl)) (by kernel_rfl)
        change AT _ _ _ _
        have hJ := lxJ_ok hx0 q13_2 q9
        change AT _ _ _ ⟨[(1000000, .any), (0, .yl [11]), (1, .ptr [0, 8] 0), (2, .ptr [6, 8] 0), (4, .i (lxJ s i)), (5, .i i), (6, .ptr [10, 1, 12] 0)], (b95_36 s i out), [1, 12], 57⟩
        refine at_B [0, 1, 2, 4, 6] [] [(0 ≤ i ∧ i ≤ (lxJ s i) ∧ (lxJ s i) ≤ ((s.size : Nat) : Int))] [(1000000, .any), (0, .yl [11]), (1, .ptr [0, 8] 0), (2, .ptr [6, 8] 0), (4, .i (lxJ s i)), (6, .ptr [10, 1, 12] 0)] (b95_25 s i out) 64 (by kernel_rfl) ?_ ?_
        ·exact ⟨by (try simp only [lns] at *); omega, trivial⟩
        cases hs_21 : ((!decide ((lxE s i) = (0 : Int))))
        ·have qhs_21 := hs_21
         (try simp only [brs] at qhs_21)
         cases hs_22 : ((decide (((out.length : Nat) : Int) = (5000 : Int))))
         ·have qhs_22 := hs_22
          (try simp only [brs] at qhs_22)
          refine at_B [0, 1, 2, 4, 147] [.std, .std, .retY (.b true) (b95_30 out s i)] [YldOK Tryd.prog [11] [.agg [.i (lxK s i), .tv (.str (s.extract i.toNat (lxJ s i).toNat)), .i (lxN s i), .i i, .i (lxE s i)]] (b95_25 s i out) [66, 1, 12] (fun v1 H1 => v1 = (.b true) ∧ H1 = (b95_30 out s i))] [(1000000, .any), (0, .yl [11]), (1, .ptr [0, 8] 0), (2, .ptr [6, 8] 0), (4, .i (lxJ s i)), (147, .b (!decide ((lxE s i) = (0 : Int))))] (b95_30 out s i) 73 (by kernel_rfl) ?_ ?_
          ·refine ⟨?_, trivial⟩
           ·refine yld_in [(1000000, .any), (2, .ptr [0] 0), (3, .ptr [1] 0), (4, .ptr [2] 0), (5, .ptr [6] 0), (11, .fn (.func 100) [.ptr [0, 8] 0, .ptr [6, 8] 0])] 35 [12] (fcode Tryd.f95 [1, 1, 1, 0, 1, 1, 0]) (fcode Tryd.f95 [1, 1, 1, 0, 1, 1, 1]) none (by kernel_rfl) (by kernel_rfl) (fun lp => ?_)
            change AT _ (fcode Tryd.f95 [1, 1, 1, 0, 1, 1, 0]) _ ⟨[(1000000, .any), (12, .agg [.i (lxK s i), .tv (.str (s.extract i.toNat (lxJ s i).toNat)), .i (lxN s i), .i i, .i (lxE s i)]), (1000000, .any), (2, .ptr [0] 0), (3, .ptr [1] 0), (4, .ptr [2] 0), (5, .ptr [6] 0), (11, .fn (.func 100) [.ptr [0, 8] 0, .ptr [6, 8] 0])], (b95_25 s i out), [66, 1, 12], 0⟩
            refine at_Bl [2, 3, 4, 5, 6] [] [] [(1000000, .any), (2, .ptr [0] 0), (3, .ptr [1] 0), (4, .ptr [2] 0), (5, .ptr [6] 0), (6, .ptr [0, 66, 1, 12] 0)] (b95_29 s i out) 2 (by kernel_rfl) ?_ ?_
            ·exact trivial
            refine asg_end [(1000000, .any), (2, .ptr [0] 0), (3, .ptr [1] 0), (4, .ptr [2] 0), (5, .ptr [6] 0), (11, .fn (.func 100) [.ptr [0, 8] 0, .ptr [6, 8] 0])] 35 [12] (fcode Tryd.f95 [1, 1, 1, 0, 1, 1, 0]) none (by kernel_rfl) (H1 := (b95_24 s i out)) (by kernel_rfl) ?_
            refine at_block ?_
            refine at_seq ?_
            refine at_block ?_
            refine at_B [2, 3, 4, 5, 6, 13] [] [] [(1000000, .any), (2, .ptr [0] 0), (3, .ptr [1] 0), (4, .ptr [2] 0), (5, .ptr [6] 0), (6, .ptr [0, 66, 1, 12] 0), (13, .b (!decide ((lxE s i) = (0 : Int))))] (b95_24 s i out) 6 (by kernel_rfl) ?_ ?_
            ·exact trivial
            refine at_cond (b := (!decide ((lxE s i) = (0 : Int)))) rfl rfl (fun h => ?_) (fun h => ?_)
            ·exact absurd (h.symm.trans hs_21) (by decide)
            clear h
            refine at_B [2, 3, 4, 5, 6, 22] [] [] [(1000000, .any), (2, .ptr [0] 0), (3, .ptr [1] 0), (4, .ptr [2] 0), (5, .ptr [6] 0), (6, .ptr [0, 66, 1, 12] 0), (22, .b (decide (((out.length : Nat) : Int) = (5000 : Int))))] (b95_24 s i out) 10 (by kernel_rfl) ?_ ?_
            ·exact trivial
            refine at_cond (b := (decide (((out.length : Nat) : Int) = (5000 : Int)))) rfl rfl (fun h => ?_) (fun h => ?_)
            ·exact absurd (h.symm.trans hs_22) (by decide)
            clear h
            refine at_skip ?_
            change AT _ _ _ _
            refine at_Bl [] [.std, .std, .std, .eq (.tv (.sli 4 (([(Tk.mk (lxK s i) (s.extract i.toNat (lxJ s i).toNat) (lxN s i) i)] : List _).map celT))), .eff (.sl [14, 66, 1, 12] 4 0 (out ++ [(Tk.mk (lxK s i) (s.extract i.toNat (lxJ s i).toNat) (lxN s i) i)]).length) (.row (flat celT (out ++ [(Tk.mk (lxK s i) (s.extract i.toNat (lxJ s i).toNat) (lxN s i) i)])) false)] [(.tv (.sli 4 [[.int .i64 (lxK s i), .str (s.extract i.toNat (lxJ s i).toNat), .int .i64 (lxN s i), .int .i64 i]]) : AV) = .tv (.sli 4 (([(Tk.mk (lxK s i) (s.extract i.toNat (lxJ s i).toNat) (lxN s i) i)] : List _).map celT)), (4 = 4 ∧ 0 = 0 ∧ (flat celT out).length = out.length * 4 ∧ out.length + 1 ≤ 9223372036854775807 ∧ (out.length + 1) * 40 ≤ 140737488355328), (.sl [14, 66, 1, 12] 4 0 (out.length + 1) : AV) = .sl [14, 66, 1, 12] 4 0 (out ++ [(Tk.mk (lxK s i) (s.extract i.toNat (lxJ s i).toNat) (lxN s i) i)]).length, (.row ((flat celT out) ++ (List.map AV.tv (List.flatten (([(Tk.mk (lxK s i) (s.extract i.toNat (lxJ s i).toNat) (lxN s i) i)] : List _).map celT)))) false : AO) = .row (flat celT (out ++ [(Tk.mk (lxK s i) (s.extract i.toNat (lxJ s i).toNat) (lxN s i) i)])) false] [(1000000, .any)] (b95_42 out s i) 16 (by kernel_rfl) ?_ ?_
            ·exact ⟨rfl, ⟨rfl, rfl, flat_len (sz := 4) (fun _ => rfl) _, by (try simp only [brs, lns] at *); omega, by (try simp only [brs, lns] at *); omega⟩, by simp, congrArg (AO.row · false) (flat_app (rfl)), trivial⟩
            exact round_end (q := [66, 1, 12]) [[14, 66, 1, 12], [10, 1, 12], [11], [10], [6, 8], [3, 8], [0, 8], [6], [2], [1], [0]] [(1000000, .any), (2, .ptr [0] 0), (3, .ptr [1] 0), (4, .ptr [2] 0), (5, .ptr [6] 0), (11, .fn (.func 100) [.ptr [0, 8] 0, .ptr [6, 8] 0])] 35 [12] (fcode Tryd.f95 [1, 1, 1, 0, 1, 1, 0]) (fcode Tryd.f95 [1, 1, 1, 0, 1, 1, 1]) .busy none (by kernel_rfl) rfl (by kernel_rfl)
          refine at_cond (b := (!decide ((lxE s i) = (0 : Int)))) rfl rfl (fun h => ?_) (fun h => ?_)
          ·exact absurd (h.symm.trans hs_21) (by decide)
          clear h
          refine at_skip ?_
          refine ⟨rfl, ((lxJ s i), (out ++ [(Tk.mk (lxK s i) (s.extract i.toNat (lxJ s i).toNat) (lxN s i) i)])), ?_, ?_, ?_⟩
          ·(try dsimp only); have hk := (keep_3 hI q9 q13_2 hc22_2 hc26_2 hs_21 hs_22).1; have hk2 := (keep_3 hI q9 q13_2 hc22_2 hc26_2 hs_21 hs_22).2.1; have hg := lxJ_lt hx0 q13_2 q9 hs_21; omega
          ·(try dsimp only); exact keep_3 hI q9 q13_2 hc22_2 hc26_2 hs_21 hs_22
          ·exact RnOK.perm (H1 := (b95_35 out s i)) [[10, 1, 12], [0, 1, 12], [11], [10], [6, 8], [3, 8], [0, 8], [6], [2], [1], [0]] (by kernel_rfl) (rn_ok [([14, 66, 1, 12], [0, 1, 12]), ([11], [11]), ([10], [10]), ([6, 8], [6, 8]), ([3, 8], [3, 8]), ([0, 8], [0, 8]), ([6], [6]), ([2], [2]), ([1], [1]), ([0], [0])] [[14, 66, 1, 12], [3, 8]] [0, 1, 2, 4] (⟨clO_flat _ _ _, clO_flat _ _ _, trivial⟩) (by kernel_rfl))
         ·have qhs_22 := hs_22
          (try simp only [brs] at qhs_22)
          refine at_B [0, 1, 2, 4, 147] [.std, .std, .retY (.b false) (b95_31 s i out)] [YldOK Tryd.prog [11] [.agg [.i (lxK s i), .tv (.str (s.extract i.toNat (lxJ s i).toNat)), .i (lxN s i), .i i, .i (lxE s i)]] (b95_25 s i out) [66, 1, 12] (fun v1 H1 => v1 = (.b false) ∧ H1 = (b95_31 s i out))] [(1000000, .any), (0, .yl [11]), (1, .ptr [0, 8] 0), (2, .ptr [6, 8] 0), (4, .i (lxJ s i)), (147, .b true)] (b95_31 s i out) 73 (by kernel_rfl) ?_ ?_
          ·refine ⟨?_, trivial⟩
           ·refine yld_in [(1000000, .any), (2, .ptr [0] 0), (3, .ptr [1] 0), (4, .ptr [2] 0), (5, .ptr [6] 0), (11, .fn (.func 100) [.ptr [0, 8] 0, .ptr [6, 8] 0])] 35 [12] (fcode Tryd.f95 [1, 1, 1, 0, 1, 1, 0]) (fcode Tryd.f95 [1, 1, 1, 0, 1, 1, 1]) none (by kernel_rfl) (by kernel_rfl) (fun lp => ?_)
            change AT _ (fcode Tryd.f95 [1, 1, 1, 0, 1, 1, 0]) _ ⟨[(1000000, .any), (12, .agg [.i (lxK s i), .tv (.str (s.extract i.toNat (lxJ s i).toNat)), .i (lxN s i), .i i, .i (lxE s i)]), (1000000, .any), (2, .ptr [0] 0), (3, .ptr [1] 0), (4, .ptr [2] 0), (5, .ptr [6] 0), (11, .fn (.func 100) [.ptr [0, 8] 0, .ptr [6, 8] 0])], (b95_25 s i out), [66, 1, 12], 0⟩
            refine at_Bl [2, 3, 4, 5, 6] [] [] [(1000000, .any), (2, .ptr [0] 0), (3, .ptr [1] 0), (4, .ptr [2] 0), (5, .ptr [6] 0), (6, .ptr [0, 66, 1, 12] 0)] (b95_29 s i out) 2 (by kernel_rfl) ?_ ?_
            ·exact trivial
            refine asg_end [(1000000, .any), (2, .ptr [0] 0), (3, .ptr [1] 0), (4, .ptr [2] 0), (5, .ptr [6] 0), (11, .fn (.func 100) [.ptr [0, 8] 0, .ptr [6, 8] 0])] 35 [12] (fcode Tryd.f95 [1, 1, 1, 0, 1, 1, 0]) none (by kernel_rfl) (H1 := (b95_24 s i out)) (by kernel_rfl) ?_
            refine at_block ?_
            refine at_seq ?_
            refine at_block ?_
            refine at_B [2, 3, 4, 5, 6, 13] [] [] [(1000000, .any), (2, .ptr [0] 0), (3, .ptr [1] 0), (4, .ptr [2] 0), (5, .ptr [6] 0), (6, .ptr [0, 66, 1, 12] 0), (13, .b (!decide ((lxE s i) = (0 : Int))))] (b95_24 s i out) 6 (by kernel_rfl) ?_ ?_
            ·exact trivial
            refine at_cond (b := (!decide ((lxE s i) = (0 : Int)))) rfl rfl (fun h => ?_) (fun h => ?_)
            ·exact absurd (h.symm.trans hs_21) (by decide)
            clear h
            refine at_B [2, 3, 4, 5, 6, 22] [] [] [(1000000, .any), (2, .ptr [0] 0), (3, .ptr [1] 0), (4, .ptr [2] 0), (5, .ptr [6] 0), (6, .ptr [0, 66, 1, 12] 0), (22, .b (decide (((out.length : Nat) : Int) = (5000 : Int))))] (b95_24 s i out) 10 (by kernel_rfl) ?_ ?_
            ·exact trivial
            refine at_cond (b := (decide (((out.length : Nat) : Int) = (5000 : Int)))) rfl rfl (fun h => ?_) (fun h => ?_)
            rotate_left
            ·exact absurd (h.symm.trans hs_22) (by decide)
            clear h
            refine at_D [none, none, some [[0, 66, 1, 12]], some [[0]], some [[1]], some [[2]]] [0, 1, 3, 0, 8, 31] [2, 3, 4] [] [] [(1000000, .any), (2, .ptr [0] 0), (3, .ptr [1] 0), (4, .ptr [2] 0)] (b95_43 s i out) 16 (by kernel_rfl) ?_ ?_
            ·exact trivial
            refine at_ret ?_
            exact round_ret (q := [66, 1, 12]) [[10, 1, 12], [0, 1, 12], [11], [10], [6, 8], [3, 8], [0, 8], [6], [2], [1], [0]] [(1000000, .any), (2, .ptr [0] 0), (3, .ptr [1] 0), (4, .ptr [2] 0), (5, .ptr [6] 0), (11, .fn (.func 100) [.ptr [0, 8] 0, .ptr [6, 8] 0])] 35 [12] (fcode Tryd.f95 [1, 1, 1, 0, 1, 1, 0]) (fcode Tryd.f95 [1, 1, 1, 0, 1, 1, 1]) .busy none (by kernel_rfl) rfl (by kernel_rfl)
          refine at_cond (b := true) rfl rfl (fun h => ?_) (fun h => ?_)
          rotate_left
          ·cases h
          clear h
          refine at_ret ?_
          exact fin_in (.inr rfl) [[11], [10], [6, 8], [3, 8], [0, 8], [2], [1], [0]] (.tup []) [([10, 1, 12], .row [.i (lxK s i), .tv (.str (s.extract i.toNat (lxJ s i).toNat)), .i (lxN s i), .i i, .i (lxE s i)] false), ([0, 1, 12], .row (flat celT out) false), ([11], .loop [(1000000, .any), (2, .ptr [0] 0), (3, .ptr [1] 0), (4, .ptr [2] 0), (5, .ptr [6] 0), (11, .fn (.func 100) [.ptr [0, 8] 0, .ptr [6, 8] 0])] 35 [12] (fcode Tryd.f95 [1, 1, 1, 0, 1, 1, 0]) (fcode Tryd.f95 [1, 1, 1, 0, 1, 1, 1]) .done (some .ret)), ([10], .dfr), ([6, 8], .row [.fn (.func 99) [.ptr [0, 8] 0, .ptr [3, 8] 0]] false), ([3, 8], .row (flat (encK .u8) clsL) false), ([0, 8], .row [.tv (.str s)] false), ([6], .row [.sl [0, 1, 12] 4 0 out.length] false), ([2], .row [.i i] false), ([1], .row [.i 2] false), ([0], .row [.tv .nils] false)] (by kernel_rfl) rfl (by show keepH _ _ = [([11], .loop [(1000000, .any), (2, .ptr [0] 0), (3, .ptr [1] 0), (4, .ptr [2] 0), (5, .ptr [6] 0), (11, .fn (.func 100) [.ptr [0, 8] 0, .ptr [6, 8] 0])] 35 [12] (fcode Tryd.f95 [1, 1, 1, 0, 1, 1, 0]) (fcode Tryd.f95 [1, 1, 1, 0, 1, 1, 1]) .done (some .ret)), ([10], .dfr), ([6, 8], .row [.fn (.func 99) [.ptr [0, 8] 0, .ptr [3, 8] 0]] false), ([3, 8], .row (flat (encK .u8) clsL) false), ([0, 8], .row [.tv (.str s)] false), ([2], .row [.i ((lexG s 0 []).2.2)] false), ([1], .row [.i ((lexG s 0 []).2.1)] false), ([0], .row [.tv .nils] false)]; rw [show lexG s 0 [] = _ from hx2.symm.trans (lex_full q13_2 hc22_2 hc26_2 hs_21 hs_22)]; kernel_rfl)
        ·have qhs_21 := hs_21
         (try simp only [brs] at qhs_21)
         refine at_B [0, 1, 2, 4, 147] [.std, .std, .retY (.b false) (b95_32 s i out)] [YldOK Tryd.prog [11] [.agg [.i (lxK s i), .tv (.str (s.extract i.toNat (lxJ s i).toNat)), .i (lxN s i), .i i, .i (lxE s i)]] (b95_25 s i out) [66, 1, 12] (fun v1 H1 => v1 = (.b false) ∧ H1 = (b95_32 s i out))] [(1000000, .any), (0, .yl [11]), (1, .ptr [0, 8] 0), (2, .ptr [6, 8] 0), (4, .i (lxJ s i)), (147, .b true)] (b95_32 s i out) 73 (by kernel_rfl) ?_ ?_
         ·refine ⟨?_, trivial⟩
          ·refine yld_in [(1000000, .any), (2, .ptr [0] 0), (3, .ptr [1] 0), (4, .ptr [2] 0), (5, .ptr [6] 0), (11, .fn (.func 100) [.ptr [0, 8] 0, .ptr [6, 8] 0])] 35 [12] (fcode Tryd.f95 [1, 1, 1, 0, 1, 1, 0]) (fcode Tryd.f95 [1, 1, 1, 0, 1, 1, 1]) none (by kernel_rfl) (by kernel_rfl) (fun lp => ?_)
           change AT _ (fcode Tryd.f95 [1, 1, 1, 0, 1, 1, 0]) _ ⟨[(1000000, .any), (12, .agg [.i (lxK s i), .tv (.str (s.extract i.toNat (lxJ s i).toNat)), .i (lxN s i), .i i, .i (lxE s i)]), (1000000, .any), (2, .ptr [0] 0), (3, .ptr [1] 0), (4, .ptr [2] 0), (5, .ptr [6] 0), (11, .fn (.func 100) [.ptr [0, 8] 0, .ptr [6, 8] 0])], (b95_25 s i out), [66, 1, 12], 0⟩
           refine at_Bl [2, 3, 4, 5, 6] [] [] [(1000000, .any), (2, .ptr [0] 0), (3, .ptr [1] 0), (4, .ptr [2] 0), (5, .ptr [6] 0), (6, .ptr [0, 66, 1, 12] 0)] (b95_29 s i out) 2 (by kernel_rfl) ?_ ?_
           ·exact trivial
           refine asg_end [(1000000, .any), (2, .ptr [0] 0), (3, .ptr [1] 0), (4, .ptr [2] 0), (5, .ptr [6] 0), (11, .fn (.func 100) [.ptr [0, 8] 0, .ptr [6, 8] 0])] 35 [12] (fcode Tryd.f95 [1, 1, 1, 0, 1, 1, 0]) none (by kernel_rfl) (H1 := (b95_24 s i out)) (by kernel_rfl) ?_
           refine at_block ?_
           refine at_seq ?_
           refine at_block ?_
           refine at_B [2, 3, 4, 5, 6, 13] [] [] [(1000000, .any), (2, .ptr [0] 0), (3, .ptr [1] 0), (4, .ptr [2] 0), (5, .ptr [6] 0), (6, .ptr [0, 66, 1, 12] 0), (13, .b (!decide ((lxE s i) = (0 : Int))))] (b95_24 s i out) 6 (by kernel_rfl) ?_ ?_
           ·exact trivial
           refine at_cond (b := (!decide ((lxE s i) = (0 : Int)))) rfl rfl (fun h => ?_) (fun h => ?_)
           rotate_left
           ·exact absurd (h.symm.trans hs_21) (by decide)
           clear h
           refine at_D [none, some [[0, 66, 1, 12]], none, none, some [[0, 66, 1, 12]], some [[0]], some [[1]], some [[2]]] [0, 1, 0, 4, 12, 0, 35, 127] [2, 3, 4] [] [] [(1000000, .any), (2, .ptr [0] 0), (3, .ptr [1] 0), (4, .ptr [2] 0)] (b95_46 s i out) 14 (by kernel_rfl) ?_ ?_
           ·exact trivial
           refine at_ret ?_
           exact round_ret (q := [66, 1, 12]) [[10, 1, 12], [0, 1, 12], [11], [10], [6, 8], [3, 8], [0, 8], [6], [2], [1], [0]] [(1000000, .any), (2, .ptr [0] 0), (3, .ptr [1] 0), (4, .ptr [2] 0), (5, .ptr [6] 0), (11, .fn (.func 100) [.ptr [0, 8] 0, .ptr [6, 8] 0])] 35 [12] (fcode Tryd.f95 [1, 1, 1, 0, 1, 1, 0]) (fcode Tryd.f95 [1, 1, 1, 0, 1, 1, 1]) .busy none (by kernel_rfl) rfl (by kernel_rfl)
         refine at_cond (b := true) rfl rfl (fun h => ?_) (fun h => ?_)
         rotate_left
         ·cases h
         clear h
         refine at_ret ?_
         exact fin_in (.inr rfl) [[11], [10], [6, 8], [3, 8], [0, 8], [2], [1], [0]] (.tup []) [([10, 1, 12], .row [.i (lxK s i), .tv (.str (s.extract i.toNat (lxJ s i).toNat)), .i (lxN s i), .i i, .i (lxE s i)] false), ([0, 1, 12], .row (flat celT out) false), ([11], .loop [(1000000, .any), (2, .ptr [0] 0), (3, .ptr [1] 0), (4, .ptr [2] 0), (5, .ptr [6] 0), (11, .fn (.func 100) [.ptr [0, 8] 0, .ptr [6, 8] 0])] 35 [12] (fcode Tryd.f95 [1, 1, 1, 0, 1, 1, 0]) (fcode Tryd.f95 [1, 1, 1, 0, 1, 1, 1]) .done (some .ret)), ([10], .dfr), ([6, 8], .row [.fn (.func 99) [.ptr [0, 8] 0, .ptr [3, 8] 0]] false), ([3, 8], .row (flat (encK .u8) clsL) false), ([0, 8], .row [.tv (.str s)] false), ([6], .row [.sl [0, 1, 12] 4 0 out.length] false), ([2], .row [.i i] false), ([1], .row [.i (lxE s i)] false), ([0], .row [.tv .nils] false)] (by kernel_rfl) rfl (by show keepH _ _ = [([11], .loop [(1000000, .any), (2, .ptr [0] 0), (3, .ptr [1] 0), (4, .ptr [2] 0), (5, .ptr [6] 0), (11, .fn (.func 100) [.ptr [0, 8] 0, .ptr [6, 8] 0])] 35 [12] (fcode Tryd.f95 [1, 1, 1, 0, 1, 1, 0]) (fcode Tryd.f95 [1, 1, 1, 0, 1, 1, 1]) .done (some .ret)), ([10], .dfr), ([6, 8], .row [.fn (.func 99) [.ptr [0, 8] 0, .ptr [3, 8] 0]] false), ([3, 8], .row (flat (encK .u8) clsL) false), ([0, 8], .row [.tv (.str s)] false), ([2], .row [.i ((lexG s 0 []).2.2)] false), ([1], .row [.i ((lexG s 0 []).2.1)] false), ([0], .row [.tv .nils] false)]; rw [show lexG s 0 [] = _ from hx2.symm.trans (lex_err q13_2 hc22_2 hc26_2 hs_21)]; kernel_rfl)
     ·have q13_2 := hc13_2
      (try simp only [brs] at q13_2)
      exact absurd (lex_out hI q13_2).2 (of_decide_eq_false hs1)
   refine fin0 (.inr rfl) (.tup [.tv .nils, .i ((lexG s 0 []).2.1), .i ((lexG s 0 []).2.2)]) [([10], .gone), b95_2, b95_4, ([0, 8], .row [.tv (.str s)] false), (b95_21 s), (b95_22 s), ([0], .row [.tv .nils] false)] (.tup [.tv .nils, .i ((lexG s 0 []).2.1), .i ((lexG s 0 []).2.2)]) (H2 := [([10], .gone), b95_2, b95_4, ([0, 8], .row [.tv (.str s)] false), (b95_21 s), (b95_22 s), ([0], .row [.tv .nils] false)]) (by kernel_rfl) (by kernel_rfl) ?_
   refine Le.trans (b := .tup [.tv (.sli 4 (([] : List _).map celT)), .i ((lexG s 0 []).2.1), .i ((lexG s 0 []).2.2)]) (Le.tup (.cons (Le.nils 4) (.cons (Le.refl _) (.cons (Le.refl _) .nil)))) (Le.of_eq ?_)
   rw [lexF, hc9, cond_false, ((lex_nil s _ 0 [] (Nat.le_refl _)).1 (of_decide_eq_false hs1))]
  ·have qhs1 := hs1
   refine at_rf 100 [.ptr [0, 8] 0, .ptr [6, 8] 0] (.tup []) [b95_1, ([10], .dfr), (b95_20 s), b95_2, b95_4, ([0, 8], .row [.tv (.str s)] false), (b95_17 s), ([2], .row [.i 0] false), ([1], .row [.i 0] false), ([0], .row [.tv .nils] false)] [(1000000, .any), (2, .ptr [0] 0), (3, .ptr [1] 0), (4, .ptr [2] 0), (5, .ptr [6] 0), (11, .fn (.func 100) [.ptr [0, 8] 0, .ptr [6, 8] 0])] 35 [12] (fcode Tryd.f95 [1, 1, 1, 0, 1, 1, 0]) (fcode Tryd.f95 [1, 1, 1, 0, 1, 1, 1]) [2, 3, 4, 5, 11] [[10], [1000, 1, 12], [6, 8], [3, 8], [0, 8], [6], [2], [1], [0]] [(1000000, .ds [.ptr [10] 0]), (2, .ptr [0] 0), (3, .ptr [1] 0), (4, .ptr [2] 0), (5, .ptr [6] 0), (11, .fn (.func 100) [.ptr [0, 8] 0, .ptr [6, 8] 0])] [([10], .dfr), (b95_20 s), b95_2, b95_4, ([0, 8], .row [.tv (.str s)] false), (b95_17 s), ([2], .row [.i 0] false), ([1], .row [.i 0] false), ([0], .row [.tv .nils] false)] (by kernel_rfl) rfl (by kernel_rfl) ?_ (by kernel_rfl) (by kernel_rfl) rfl (by kernel_rfl) ?_
   ·refine call_in (fn := Tryd.f100) [] Tryd.func100 rfl (by kernel_rfl) rfl ?_
    change AT _ _ _ ⟨[(0, .yl [11]), (1, .ptr [0, 8] 0), (2, .ptr [6, 8] 0)], (b95_50 s), [12], 0⟩
    refine at_scope ?_
    refine at_B [0, 1, 2, 4] [] [] [(1000000, .any), (0, .yl [11]), (1, .ptr [0, 8] 0), (2, .ptr [6, 8] 0), (4, .i 0)] (b95_50 s) 1 (by kernel_rfl) ?_ ?_
    ·exact trivial
    refine at_seq ?_
    refine at_label ?_
    change AT _ _ _ _
    refine at_block ?_
    refine at_loopR (X := Int × List Tk) 1 (fun ((i, out) : Int × List Tk) => [(1000000, .any), (0, .yl [11]), (1, .ptr [0, 8] 0), (2, .ptr [6, 8] 0), (4, .i i)]) (fun ((i, out) : Int × List Tk) => (b95_28 out s)) (fun ((i, out) : Int × List Tk) => lexI s i out) (fun ((i, out) : Int × List Tk) => (s.size - i).toNat) (0, []) ?_ ?_ ?_
    ·exact ⟨by decide, by omega, rfl, by simp⟩
    ·exact RnOK.perm (H1 := (b95_51 s)) [[0, 1, 12], [11], [10], [6, 8], [3, 8], [0, 8], [6], [2], [1], [0]] (by kernel_rfl) (rn_ok [([9], [0, 1, 12]), ([11], [11]), ([10], [10]), ([6, 8], [6, 8]), ([3, 8], [3, 8]), ([0, 8], [0, 8]), ([6], [6]), ([2], [2]), ([1], [1]), ([0], [0])] [[3, 8]] [0, 1, 2, 4] (⟨clO_flat _ _ _, trivial⟩) (by kernel_rfl))
    ·rintro ⟨i, out⟩ hinv
     dsimp only at hinv ⊢
     have hI := hinv
     obtain ⟨hx0, hx1, hx2, hx3⟩ := hinv
     refine at_seq ?_
     refine at_B [0, 1, 2, 4, 13] [] [] [(1000000, .any), (0, .yl [11]), (1, .ptr [0, 8] 0), (2, .ptr [6, 8] 0), (4, .i i), (13, .b (decide (i < ((s.size : Nat) : Int))))] (b95_28 out s) 5 (by kernel_rfl) ?_ ?_
     ·exact trivial
     refine at_cond (b := (decide (i < ((s.size : Nat) : Int)))) rfl rfl (fun hc13_8 => ?_) (fun hc13_8 => ?_)
     ·have q13_8 := hc13_8
      (try simp only [brs] at q13_8)
      refine at_skip ?_
      change AT _ _ _ _
      refine at_block ?_
      refine at_B [0, 1, 2, 4, 5] [] [] [(1000000, .any), (0, .yl [11]), (1, .ptr [0, 8] 0), (2, .ptr [6, 8] 0), (4, .i i), (5, .i i)] (b95_28 out s) 7 (by kernel_rfl) ?_ ?_
      ·exact trivial
      refine at_B [0, 1, 2, 4, 5, 6] [] [] [(1000000, .any), (0, .yl [11]), (1, .ptr [0, 8] 0), (2, .ptr [6, 8] 0), (4, .i i), (5, .i i), (6, .ptr [10, 1, 12] 0)] (b95_23 i out s) 12 (by kernel_rfl) ?_ ?_
      ·exact trivial
      refine at_seq ?_
      refine at_B [0, 1, 2, 4, 5, 6, 20] [.std, .std, .retS (.tv (.int .u8 (atF s i)))] [StabCall Tryd.prog 99 [.i i, .ptr [0, 8] 0, .ptr [3, 8] 0] (b95_23 i out s) (.tv (.int .u8 (atF s i)))] [(1000000, .any), (0, .yl [11]), (1, .ptr [0, 8] 0), (2, .ptr [6, 8] 0), (4, .i i), (5, .i i), (6, .ptr [10, 1, 12] 0), (20, .tv (.int .u8 (atF s i)))] (b95_23 i out s) 15 (by kernel_rfl) ?_ ?_
      ·exact ⟨StabCall.mono (H := (b95_33 s)) (stab_mv (args := [.i i, .ptr [0] 0, .ptr [1] 0]) (H := (b95_41 s)) (H2 := (b95_33 s)) (q := [50]) [([0, 8], [0]), ([3, 8], [1])] [([0], [0, 8]), ([1], [3, 8])] [[3, 8]] [[1]] ((c99 i s (by (try simp only [brs, lns] at *); omega)) _ _ (fun _ _ h => h)) (by kernel_rfl) (by kernel_rfl) (⟨clO_flat _ _ _, trivial⟩) (by kernel_rfl) (by kernel_rfl) (⟨clO_flat _ _ _, trivial⟩)) (sub_cons (by kernel_rfl) (sub_cons (by kernel_rfl) sub_nil)), trivial⟩
      refine at_block ?_
      refine at_B [0, 1, 2, 4, 5, 6, 20, 22] [] [] [(1000000, .any), (0, .yl [11]), (1, .ptr [0, 8] 0), (2, .ptr [6, 8] 0), (4, .i i), (5, .i i), (6, .ptr [10, 1, 12] 0), (20, .tv (.int .u8 (atF s i))), (22, .b (decide ((atF s i) = (1 : Int))))] (b95_23 i out s) 17 (by kernel_rfl) ?_ ?_
      ·exact trivial
      refine at_cond (b := (decide ((atF s i) = (1 : Int)))) rfl rfl (fun hc22_8 => ?_) (fun hc22_8 => ?_)
      ·have q22_8 := hc22_8
       (try simp only [brs] at q22_8)
       refine at_B [0, 1, 2, 4] [] [] [(1000000, .any), (0, .yl [11]), (1, .ptr [0, 8] 0), (2, .ptr [6, 8] 0), (4, .i (wr (i + 1)))] (b95_23 i out s) 20 (by kernel_rfl) ?_ ?_
       ·exact trivial
       refine at_exit ?_
       refine ⟨rfl, (wr (i + 1), out), ?_, ?_, ?_⟩
       ·(try dsimp only); have hk := (keep_1 hI q9 q13_8 hc22_8).1; have hk2 := (keep_1 hI q9 q13_8 hc22_8).2.1; have hg := wr_ok (n := i + 1) (by omega) (by omega); omega
       ·(try dsimp only); exact keep_1 hI q9 q13_8 hc22_8
       ·exact rn_ok [([0, 1, 12], [0, 1, 12]), ([11], [11]), ([10], [10]), ([6, 8], [6, 8]), ([3, 8], [3, 8]), ([0, 8], [0, 8]), ([6], [6]), ([2], [2]), ([1], [1]), ([0], [0])] [[0, 1, 12], [3, 8]] [0, 1, 2, 4] (⟨clO_flat _ _ _, clO_flat _ _ _, trivial⟩) (by kernel_rfl)
      ·have q22_8 := hc22_8
       (try simp only [brs] at q22_8)
       refine at_B [0, 1, 2, 4, 5, 6, 20, 26] [] [] [(1000000, .any), (0, .yl [11]), (1, .ptr [0, 8] 0), (2, .ptr [6, 8] 0), (4, .i i), (5, .i i), (6, .ptr [10, 1, 12] 0), (20, .tv (.int .u8 (atF s i))), (26, .b (decide ((atF s i) = (2 : Int))))] (b95_23 i out s) 19 (by kernel_rfl) ?_ ?_
       ·exact trivial
       refine at_cond (b := (decide ((atF s i) = (2 : Int)))) rfl rfl (fun hc26_8 => ?_) (fun hc26_8 => ?_)
       ·have q26_8 := hc26_8
        (try simp only [brs] at q26_8)
        refine at_seq ?_
        refine at_block ?_
        refine at_loopR (X := Int) 0 (fun (j : Int) => [(1000000, .any), (0, .yl [11]), (1, .ptr [0, 8] 0), (2, .ptr [6, 8] 0), (4, .i j)]) (fun (j : Int) => (b95_23 i out s)) (fun (j : Int) => i ≤ j ∧ j ≤ s.size ∧ runI (hsC s) s j = runI (hsC s) s i) (fun (j : Int) => (s.size - j).toNat) i ?_ ?_ ?_
        ·exact ⟨Int.le_refl _, by omega, rfl⟩
        ·exact rn_ok [([10, 1, 12], [10, 1, 12]), ([0, 1, 12], [0, 1, 12]), ([11], [11]), ([10], [10]), ([6, 8], [6, 8]), ([3, 8], [3, 8]), ([0, 8], [0, 8]), ([6], [6]), ([2], [2]), ([1], [1]), ([0], [0])] [[0, 1, 12], [3, 8]] [0, 1, 2, 4] (⟨clO_flat _ _ _, clO_flat _ _ _, trivial⟩) (by kernel_rfl)
        ·intro j hinv
         obtain ⟨hj1, hj2, hj3⟩ := hinv
         refine at_seq ?_
         refine at_B [0, 1, 2, 4, 37] [] [((decide (j < ((s.size : Nat) : Int))) = true) → (0 ≤ j ∧ j < ((s.size : Nat) : Int))] [(1000000, .any), (0, .yl [11]), (1, .ptr [0, 8] 0), (2, .ptr [6, 8] 0), (4, .i j), (37, .b ((decide (j < ((s.size : Nat) : Int))) && (!decide (sbyte s j = (10 : Int)))))] (b95_23 i out s) 10 (by kernel_rfl) ?_ ?_
         ·exact ⟨fun hg0 => by (try simp only [brs, lns] at *); omega, trivial⟩
         refine at_cond (b := ((decide (j < ((s.size : Nat) : Int))) && (!decide (sbyte s j = (10 : Int))))) rfl rfl (fun hc37_8 => ?_) (fun hc37_8 => ?_)
         ·have q37_8 := hc37_8
          (try simp only [brs] at q37_8)
          have hjn : j < s.size := hsC_lt hc37_8
          have hwr : wr (j + 1) = j + 1 := wr_ok (by omega) (by omega)
          refine at_skip ?_
          change AT _ _ _ _
          refine at_block ?_
          refine at_Bl [0, 1, 2, 4] [] [] [(1000000, .any), (0, .yl [11]), (1, .ptr [0, 8] 0), (2, .ptr [6, 8] 0), (4, .i (wr (j + 1)))] (b95_23 i out s) 13 (by kernel_rfl) ?_ ?_
          ·exact trivial
          refine ⟨rfl, (wr (j + 1)), ?_, ?_, ?_⟩
          ·(try dsimp only); rw [hwr]; omega
          ·exact ⟨by rw [hwr]; omega, by rw [hwr]; omega, by rw [hwr]; exact runI_step hj3 hj1 hjn hc37_8⟩
          ·exact rn_ok [([10, 1, 12], [10, 1, 12]), ([0, 1, 12], [0, 1, 12]), ([11], [11]), ([10], [10]), ([6, 8], [6, 8]), ([3, 8], [3, 8]), ([0, 8], [0, 8]), ([6], [6]), ([2], [2]), ([1], [1]), ([0], [0])] [[0, 1, 12], [3, 8]] [0, 1, 2, 4] (⟨clO_flat _ _ _, clO_flat _ _ _, trivial⟩) (by kernel_rfl)
         ·have q37_8 := hc37_8
          (try simp only [brs] at q37_8)
          have hsub : j = (runI (hsC s) s i) := runI_stop hj3 hj1 hc37_8
          subst hsub
          refine at_exit ?_
          change AT _ _ _ _
          refine at_exit ?_
          refine ⟨rfl, ((runI (hsC s) s i), out), ?_, ?_, ?_⟩
          ·(try dsimp only); have hk := (keep_2 hI q13_8 hc22_8 hc26_8).1; have hk2 := (keep_2 hI q13_8 hc22_8 hc26_8).2.1; have hg := hash_gt q13_8 hc26_8 hx0; omega
          ·(try dsimp only); exact keep_2 hI q13_8 hc22_8 hc26_8
          ·exact RnOK.perm (H1 := (b95_28 out s)) [[10, 1, 12], [0, 1, 12], [11], [10], [6, 8], [3, 8], [0, 8], [6], [2], [1], [0]] (by kernel_rfl) (rn_ok [([0, 1, 12], [0, 1, 12]), ([11], [11]), ([10], [10]), ([6, 8], [6, 8]), ([3, 8], [3, 8]), ([0, 8], [0, 8]), ([6], [6]), ([2], [2]), ([1], [1]), ([0], [0])] [[0, 1, 12], [3, 8]] [0, 1, 2, 4] (⟨clO_flat _ _ _, clO_flat _ _ _, trivial⟩) (by kernel_rfl))
       ·have q26_8 := hc26_8
        (try simp only [brs] at q26_8)
        refine at_B [0, 1, 2, 4, 5, 6, 20, 40] [] [] [(1000000, .any), (0, .yl [11]), (1, .ptr [0, 8] 0), (2, .ptr [6, 8] 0), (4, .i i), (5, .i i), (6, .ptr [10, 1, 12] 0), (20, .tv (.int .u8 (atF s i))), (40, .b (decide ((atF s i) = (3 : Int))))] (b95_23 i out s) 21 (by kernel_rfl) ?_ ?_
        ·exact trivial
        refine at_mergel (p := [1, 12]) [(1000000, .any), (0, .yl [11]), (1, .ptr [0, 8] 0), (2, .ptr [6, 8] 0), (4, .i (bif (decide ((atF s i) = (3 : Int))) then (runI (nmC s) s i) else (bif (decide ((atF s i) = (4 : Int))) then (runI (dgC s) s i) else (bif (bif (decide ((atF s i) = (6 : Int))) then (decide ((atF s i) = (6 : Int))) else (bif (decide ((atF s i) = (7 : Int))) then (decide ((atF s i) = (7 : Int))) else (decide ((atF s i) = (8 : Int))))) then (bif (((!decide ((atF s i) = (6 : Int))) && (decide (wr (i + 1) < ((s.size : Nat) : Int)))) && (decide (sbyte s (wr (i + 1)) = (61 : Int)))) then wr ((wr (i + 1)) + 1) else wr (i + 1)) else i)))), (5, .i i), (6, .ptr [10, 1, 12] 0)] [([10, 1, 12], .row [.i (bif (decide ((atF s i) = (3 : Int))) then 1 else (bif (decide ((atF s i) = (4 : Int))) then 2 else (bif (bif (decide ((atF s i) = (6 : Int))) then (decide ((atF s i) = (6 : Int))) else (bif (decide ((atF s i) = (7 : Int))) then (decide ((atF s i) = (7 : Int))) else (decide ((atF s i) = (8 : Int))))) then 3 else 0))), .tv (.str ⟨#[]⟩), .i (bif (decide ((atF s i) = (3 : Int))) then 0 else (bif (decide ((atF s i) = (4 : Int))) then (bif (((decide ((7 : Int) < wr ((runI (dgC s) s i) - i))) || (decide ((atF s (runI (dgC s) s i)) = (3 : Int)))) || (decide ((atF s (runI (dgC s) s i)) = (5 : Int)))) then 0 else (atoiV (s.extract i.toNat (runI (dgC s) s i).toNat))) else 0)), .i i, .i (bif (decide ((atF s i) = (3 : Int))) then (bif (decide ((24 : Int) < wr ((runI (nmC s) s i) - i))) then 2 else 0) else (bif (decide ((atF s i) = (4 : Int))) then (bif (((decide ((7 : Int) < wr ((runI (dgC s) s i) - i))) || (decide ((atF s (runI (dgC s) s i)) = (3 : Int)))) || (decide ((atF s (runI (dgC s) s i)) = (5 : Int)))) then 4 else 0) else (bif (bif (decide ((atF s i) = (6 : Int))) then (decide ((atF s i) = (6 : Int))) else (bif (decide ((atF s i) = (7 : Int))) then (decide ((atF s i) = (7 : Int))) else (decide ((atF s i) = (8 : Int))))) then (bif (((!decide ((atF s i) = (6 : Int))) && (decide (wr (i + 1) < ((s.size : Nat) : Int)))) && (decide (sbyte s (wr (i + 1)) = (61 : Int)))) then 0 else (bif (decide ((atF s i) = (8 : Int))) then 3 else 0)) else 3)))] false), ([0, 1, 12], .row (flat celT out) false), ([11], .loop [(1000000, .any), (2, .ptr [0] 0), (3, .ptr [1] 0), (4, .ptr [2] 0), (5, .ptr [6] 0), (11, .fn (.func 100) [.ptr [0, 8] 0, .ptr [6, 8] 0])] 35 [12] (fcode Tryd.f95 [1, 1, 1, 0, 1, 1, 0]) (fcode Tryd.f95 [1, 1, 1, 0, 1, 1, 1]) .ready none), ([10], .dfr), ([6, 8], .row [.fn (.func 99) [.ptr [0, 8] 0, .ptr [3, 8] 0]] false), ([3, 8], .row (flat (encK .u8) clsL) false), ([0, 8], .row [.tv (.str s)] false), ([6], .row [.sl [0, 1, 12] 4 0 out.length] false), ([2], .row [.i 0] false), ([1], .row [.i 0] false), ([0], .row [.tv .nils] false)] 57 ?_ ?_
        ·refine at_cond (b := (decide ((atF s i) = (3 : Int)))) rfl rfl (fun hc40_8 => ?_) (fun hc40_8 => ?_)
         ·skip
          refine at_seq ?_
          refine at_B [0, 1, 2, 4, 5, 6, 7] [.std, .std, .retS (.tv (.int .u8 (atF s i)))] [StabCall Tryd.prog 99 [.i i, .ptr [0, 8] 0, .ptr [3, 8] 0] (b95_23 i out s) (.tv (.int .u8 (atF s i)))] [(1000000, .any), (0, .yl [11]), (1, .ptr [0, 8] 0), (2, .ptr [6, 8] 0), (4, .i i), (5, .i i), (6, .ptr [10, 1, 12] 0), (7, .tv (.int .u8 (atF s i)))] (b95_23 i out s) 25 (by kernel_rfl) ?_ ?_
          ·exact ⟨StabCall.mono (H := (b95_33 s)) (stab_mv (args := [.i i, .ptr [0] 0, .ptr [1] 0]) (H := (b95_41 s)) (H2 := (b95_33 s)) (q := [50]) [([0, 8], [0]), ([3, 8], [1])] [([0], [0, 8]), ([1], [3, 8])] [[3, 8]] [[1]] ((c99 i s (by (try simp only [brs, lns] at *); omega)) _ _ (fun _ _ h => h)) (by kernel_rfl) (by kernel_rfl) (⟨clO_flat _ _ _, trivial⟩) (by kernel_rfl) (by kernel_rfl) (⟨clO_flat _ _ _, trivial⟩)) (sub_cons (by kernel_rfl) (sub_cons (by kernel_rfl) sub_nil)), trivial⟩
          refine at_block ?_
          refine at_loopR (X := Int) 0 (fun (j : Int) => [(1000000, .any), (0, .yl [11]), (1, .ptr [0, 8] 0), (2, .ptr [6, 8] 0), (4, .i j), (5, .i i), (6, .ptr [10, 1, 12] 0), (7, .tv (.int .u8 (atF s j)))]) (fun (j : Int) => (b95_23 i out s)) (fun (j : Int) => i ≤ j ∧ j ≤ s.size ∧ runI (nmC s) s j = runI (nmC s) s i) (fun (j : Int) => (s.size - j).toNat) i ?_ ?_ ?_
          ·exact ⟨Int.le_refl _, by omega, rfl⟩
          ·exact rn_ok [([10, 1, 12], [10, 1, 12]), ([0, 1, 12], [0, 1, 12]), ([11], [11]), ([10], [10]), ([6, 8], [6, 8]), ([3, 8], [3, 8]), ([0, 8], [0, 8]), ([6], [6]), ([2], [2]), ([1], [1]), ([0], [0])] [[0, 1, 12], [3, 8]] [0, 1, 2, 4, 5, 6, 7] (⟨clO_flat _ _ _, clO_flat _ _ _, trivial⟩) (by kernel_rfl)
          ·intro j hinv
           obtain ⟨hj1, hj2, hj3⟩ := hinv
           refine at_seq ?_
           refine at_B [0, 1, 2, 4, 5, 6, 54] [] [] [(1000000, .any), (0, .yl [11]), (1, .ptr [0, 8] 0), (2, .ptr [6, 8] 0), (4, .i j), (5, .i i), (6, .ptr [10, 1, 12] 0), (54, .b (((decide ((atF s j) = (3 : Int))) || (decide ((atF s j) = (4 : Int)))) || (decide ((atF s j) = (5 : Int)))))] (b95_23 i out s) 10 (by kernel_rfl) ?_ ?_
           ·exact trivial
           refine at_cond (b := (((decide ((atF s j) = (3 : Int))) || (decide ((atF s j) = (4 : Int)))) || (decide ((atF s j) = (5 : Int))))) rfl rfl (fun hc54_8 => ?_) (fun hc54_8 => ?_)
           ·have q54_8 := hc54_8
            (try simp only [brs] at q54_8)
            have hjn : j < s.size := nmC_lt hc54_8
            have hwr : wr (j + 1) = j + 1 := wr_ok (by omega) (by omega)
            refine at_skip ?_
            change AT _ _ _ _
            refine at_seq ?_
            refine at_block ?_
            refine at_Bl [0, 1, 2, 4, 5, 6] [] [] [(1000000, .any), (0, .yl [11]), (1, .ptr [0, 8] 0), (2, .ptr [6, 8] 0), (4, .i (wr (j + 1))), (5, .i i), (6, .ptr [10, 1, 12] 0)] (b95_23 i out s) 13 (by kernel_rfl) ?_ ?_
            ·exact trivial
            change AT _ _ _ _
            refine at_Bl [0, 1, 2, 4, 5, 6, 7] [.std, .std, .retS (.tv (.int .u8 (atF s (wr (j + 1)))))] [StabCall Tryd.prog 99 [.i (wr (j + 1)), .ptr [0, 8] 0, .ptr [3, 8] 0] (b95_23 i out s) (.tv (.int .u8 (atF s (wr (j + 1)))))] [(1000000, .any), (0, .yl [11]), (1, .ptr [0, 8] 0), (2, .ptr [6, 8] 0), (4, .i (wr (j + 1))), (5, .i i), (6, .ptr [10, 1, 12] 0), (7, .tv (.int .u8 (atF s (wr (j + 1)))))] (b95_23 i out s) 17 (by kernel_rfl) ?_ ?_
            ·exact ⟨StabCall.mono (H := (b95_33 s)) (stab_mv (args := [.i (wr (j + 1)), .ptr [0] 0, .ptr [1] 0]) (H := (b95_41 s)) (H2 := (b95_33 s)) (q := [50]) [([0, 8], [0]), ([3, 8], [1])] [([0], [0, 8]), ([1], [3, 8])] [[3, 8]] [[1]] ((c99 (wr (j + 1)) s (by (try simp only [brs, lns] at *); omega)) _ _ (fun _ _ h => h)) (by kernel_rfl) (by kernel_rfl) (⟨clO_flat _ _ _, trivial⟩) (by kernel_rfl) (by kernel_rfl) (⟨clO_flat _ _ _, trivial⟩)) (sub_cons (by kernel_rfl) (sub_cons (by kernel_rfl) sub_nil)), trivial⟩
            refine ⟨rfl, (wr (j + 1)), ?_, ?_, ?_⟩
            ·(try dsimp only); rw [hwr]; omega
            ·exact ⟨by rw [hwr]; omega, by rw [hwr]; omega, by rw [hwr]; exact runI_step hj3 hj1 hjn hc54_8⟩
            ·exact rn_ok [([10, 1, 12], [10, 1, 12]), ([0, 1, 12], [0, 1, 12]), ([11], [11]), ([10], [10]), ([6, 8], [6, 8]), ([3, 8], [3, 8]), ([0, 8], [0, 8]), ([6], [6]), ([2], [2]), ([1], [1]), ([0], [0])] [[0, 1, 12], [3, 8]] [0, 1, 2, 4, 5, 6, 7] (⟨clO_flat _ _ _, clO_flat _ _ _, trivial⟩) (by kernel_rfl)
           ·have q54_8 := hc54_8
            (try simp only [brs] at q54_8)
            have hsub : j = (runI (nmC s) s i) := runI_stop hj3 hj1 hc54_8
            subst hsub
            refine at_exit ?_
            change AT _ _ _ _
            refine at_B [0, 1, 2, 4, 5, 6] [] [] [(1000000, .any), (0, .yl [11]), (1, .ptr [0, 8] 0), (2, .ptr [6, 8] 0), (4, .i (runI (nmC s) s i)), (5, .i i), (6, .ptr [10, 1, 12] 0)] (b95_34 i out s) 29 (by kernel_rfl) ?_ ?_
            ·exact trivial
            refine at_B [0, 1, 2, 4, 5, 6, 65] [] [] [(1000000, .any), (0, .yl [11]), (1, .ptr [0, 8] 0), (2, .ptr [6, 8] 0), (4, .i (runI (nmC s) s i)), (5, .i i), (6, .ptr [10, 1, 12] 0), (65, .b (decide ((24 : Int) < wr ((runI (nmC s) s i) - i))))] (b95_34 i out s) 33 (by kernel_rfl) ?_ ?_
            ·exact trivial
            refine at_mergel (p := [1, 12]) [(1000000, .any), (0, .yl [11]), (1, .ptr [0, 8] 0), (2, .ptr [6, 8] 0), (4, .i (runI (nmC s) s i)), (5, .i i), (6, .ptr [10, 1, 12] 0)] [([10, 1, 12], .row [.i 1, .tv (.str ⟨#[]⟩), .i 0, .i i, .i (bif (decide ((24 : Int) < wr ((runI (nmC s) s i) - i))) then 2 else 0)] false), ([0, 1, 12], .row (flat celT out) false), ([11], .loop [(1000000, .any), (2, .ptr [0] 0), (3, .ptr [1] 0), (4, .ptr [2] 0), (5, .ptr [6] 0), (11, .fn (.func 100) [.ptr [0, 8] 0, .ptr [6, 8] 0])] 35 [12] (fcode Tryd.f95 [1, 1, 1, 0, 1, 1, 0]) (fcode Tryd.f95 [1, 1, 1, 0, 1, 1, 1]) .ready none), ([10], .dfr), ([6, 8], .row [.fn (.func 99) [.ptr [0, 8] 0, .ptr [3, 8] 0]] false), ([3, 8], .row (flat (encK .u8) clsL) false), ([0, 8], .row [.tv (.str s)] false), ([6], .row [.sl [0, 1, 12] 4 0 out.length] false), ([2], .row [.i 0] false), ([1], .row [.i 0] false), ([0], .row [.tv .nils] false)] 35 ?_ ?_
            ·refine at_cond (b := (decide ((24 : Int) < wr ((runI (nmC s) s i) - i)))) rfl rfl (fun hc65_8 => ?_) (fun hc65_8 => ?_)
             ·skip
              refine at_Bl [0, 1, 2, 4, 5, 6] [] [] [(1000000, .any), (0, .yl [11]), (1, .ptr [0, 8] 0), (2, .ptr [6, 8] 0), (4, .i (runI (nmC s) s i)), (5, .i i), (6, .ptr [10, 1, 12] 0)] (b95_37 i out s) 35 (by kernel_rfl) ?_ ?_
              ·exact trivial
              exact gh_merge [0, 1, 2, 4, 5, 6] [[10, 1, 12], [0, 1, 12], [11], [10], [6, 8], [3, 8], [0, 8], [6], [2], [1], [0]] (by kernel_rfl) (Eq.trans (b := [([10, 1, 12], .row [.i 1, .tv (.str ⟨#[]⟩), .i 0, .i i, .i 2] false), ([0, 1, 12], .row (flat celT out) false), ([11], .loop [(1000000, .any), (2, .ptr [0] 0), (3, .ptr [1] 0), (4, .ptr [2] 0), (5, .ptr [6] 0), (11, .fn (.func 100) [.ptr [0, 8] 0, .ptr [6, 8] 0])] 35 [12] (fcode Tryd.f95 [1, 1, 1, 0, 1, 1, 0]) (fcode Tryd.f95 [1, 1, 1, 0, 1, 1, 1]) .ready none), ([10], .dfr), ([6, 8], .row [.fn (.func 99) [.ptr [0, 8] 0, .ptr [3, 8] 0]] false), ([3, 8], .row (flat (encK .u8) clsL) false), ([0, 8], .row [.tv (.str s)] false), ([6], .row [.sl [0, 1, 12] 4 0 out.length] false), ([2], .row [.i 0] false), ([1], .row [.i 0] false), ([0], .row [.tv .nils] false)]) (by kernel_rfl) (by simp only [hc65_8, cond_true, cond_false]; try rfl)) (by kernel_rfl)
             ·skip
              refine at_skip ?_
              exact gh_merge [0, 1, 2, 4, 5, 6] [[10, 1, 12], [0, 1, 12], [11], [10], [6, 8], [3, 8], [0, 8], [6], [2], [1], [0]] (by kernel_rfl) (Eq.trans (b := [([10, 1, 12], .row [.i 1, .tv (.str ⟨#[]⟩), .i 0, .i i, .i 0] false), ([0, 1, 12], .row (flat celT out) false), ([11], .loop [(1000000, .any), (2, .ptr [0] 0), (3, .ptr [1] 0), (4, .ptr [2] 0), (5, .ptr [6] 0), (11, .fn (.func 100) [.ptr [0, 8] 0, .ptr [6, 8] 0])] 35 [12] (fcode Tryd.f95 [1, 1, 1, 0, 1, 1, 0]) (fcode Tryd.f95 [1, 1, 1, 0, 1, 1, 1]) .ready none), ([10], .dfr), ([6, 8], .row [.fn (.func 99) [.ptr [0, 8] 0, .ptr [3, 8] 0]] false), ([3, 8], .row (flat (encK .u8) clsL) false), ([0, 8], .row [.tv (.str s)] false), ([6], .row [.sl [0, 1, 12] 4 0 out.length] false), ([2], .row [.i 0] false), ([1], .row [.i 0] false), ([0], .row [.tv .nils] false)]) (by kernel_rfl) (by simp only [hc65_8, cond_true, cond_false]; try rfl)) (by kernel_rfl)
            exact gh_merge [0, 1, 2, 4, 5, 6] [[10, 1, 12], [0, 1, 12], [11], [10], [6, 8], [3, 8], [0, 8], [6], [2], [1], [0]] (Eq.trans (b := [(1000000, .any), (0, .yl [11]), (1, .ptr [0, 8] 0), (2, .ptr [6, 8] 0), (4, .i (runI (nmC s) s i)), (5, .i i), (6, .ptr [10, 1, 12] 0)]) (by kernel_rfl) (by simp only [hc40_8, cond_true, cond_false]; try rfl)) (Eq.trans (b := [([10, 1, 12], .row [.i 1, .tv (.str ⟨#[]⟩), .i 0, .i i, .i (bif (decide ((24 : Int) < wr ((runI (nmC s) s i) - i))) then 2 else 0)] false), ([0, 1, 12], .row (flat celT out) false), ([11], .loop [(1000000, .any), (2, .ptr [0] 0), (3, .ptr [1] 0), (4, .ptr [2] 0), (5, .ptr [6] 0), (11, .fn (.func 100) [.ptr [0, 8] 0, .ptr [6, 8] 0])] 35 [12] (fcode Tryd.f95 [1, 1, 1, 0, 1, 1, 0]) (fcode Tryd.f95 [1, 1, 1, 0, 1, 1, 1]) .ready none), ([10], .dfr), ([6, 8], .row [.fn (.func 99) [.ptr [0, 8] 0, .ptr [3, 8] 0]] false), ([3, 8], .row (flat (encK .u8) clsL) false), ([0, 8], .row [.tv (.str s)] false), ([6], .row [.sl [0, 1, 12] 4 0 out.length] false), ([2], .row [.i 0] false), ([1], .row [.i 0] false), ([0], .row [.tv .nils] false)]) (by kernel_rfl) (by simp only [hc40_8, cond_true, cond_false]; try rfl)) (by kernel_rfl)
         ·skip
          refine at_B [0, 1, 2, 4, 5, 6, 20, 67] [] [] [(1000000, .any), (0, .yl [11]), (1, .ptr [0, 8] 0), (2, .ptr [6, 8] 0), (4, .i i), (5, .i i), (6, .ptr [10, 1, 12] 0), (20, .tv (.int .u8 (atF s i))), (67, .b (decide ((atF s i) = (4 : Int))))] (b95_23 i out s) 23 (by kernel_rfl) ?_ ?_
          ·exact trivial
          refine at_mergel (p := [1, 12]) [(1000000, .any), (0, .yl [11]), (1, .ptr [0, 8] 0), (2, .ptr [6, 8] 0), (4, .i (bif (decide ((atF s i) = (4 : Int))) then (runI (dgC s) s i) else (bif (bif (decide ((atF s i) = (6 : Int))) then (decide ((atF s i) = (6 : Int))) else (bif (decide ((atF s i) = (7 : Int))) then (decide ((atF s i) = (7 : Int))) else (decide ((atF s i) = (8 : Int))))) then (bif (((!decide ((atF s i) = (6 : Int))) && (decide (wr (i + 1) < ((s.size : Nat) : Int)))) && (decide (sbyte s (wr (i + 1)) = (61 : Int)))) then wr ((wr (i + 1)) + 1) else wr (i + 1)) else i))), (5, .i i), (6, .ptr [10, 1, 12] 0)] [([10, 1, 12], .row [.i (bif (decide ((atF s i) = (4 : Int))) then 2 else (bif (bif (decide ((atF s i) = (6 : Int))) then (decide ((atF s i) = (6 : Int))) else (bif (decide ((atF s i) = (7 : Int))) then (decide ((atF s i) = (7 : Int))) else (decide ((atF s i) = (8 : Int))))) then 3 else 0)), .tv (.str ⟨#[]⟩), .i (bif (decide ((atF s i) = (4 : Int))) then (bif (((decide ((7 : Int) < wr ((runI (dgC s) s i) - i))) || (decide ((atF s (runI (dgC s) s i)) = (3 : Int)))) || (decide ((atF s (runI (dgC s) s i)) = (5 : Int)))) then 0 else (atoiV (s.extract i.toNat (runI (dgC s) s i).toNat))) else 0), .i i, .i (bif (decide ((atF s i) = (4 : Int))) then (bif (((decide ((7 : Int) < wr ((runI (dgC s) s i) - i))) || (decide ((atF s (runI (dgC s) s i)) = (3 : Int)))) || (decide ((atF s (runI (dgC s) s i)) = (5 : Int)))) then 4 else 0) else (bif (bif (decide ((atF s i) = (6 : Int))) then (decide ((atF s i) = (6 : Int))) else (bif (decide ((atF s i) = (7 : Int))) then (decide ((atF s i) = (7 : Int))) else (decide ((atF s i) = (8 : Int))))) then (bif (((!decide ((atF s i) = (6 : Int))) && (decide (wr (i + 1) < ((s.size : Nat) : Int)))) && (decide (sbyte s (wr (i + 1)) = (61 : Int)))) then 0 else (bif (decide ((atF s i) = (8 : Int))) then 3 else 0)) else 3))] false), ([0, 1, 12], .row (flat celT out) false), ([11], .loop [(1000000, .any), (2, .ptr [0] 0), (3, .ptr [1] 0), (4, .ptr [2] 0), (5, .ptr [6] 0), (11, .fn (.func 100) [.ptr [0, 8] 0, .ptr [6, 8] 0])] 35 [12] (fcode Tryd.f95 [1, 1, 1, 0, 1, 1, 0]) (fcode Tryd.f95 [1, 1, 1, 0, 1, 1, 1]) .ready none), ([10], .dfr), ([6, 8], .row [.fn (.func 99) [.ptr [0, 8] 0, .ptr [3, 8] 0]] false), ([3, 8], .row (flat (encK .u8) clsL) false), ([0, 8], .row [.tv (.str s)] false), ([6], .row [.sl [0, 1, 12] 4 0 out.length] false), ([2], .row [.i 0] false), ([1], .row [.i 0] false), ([0], .row [.tv .nils] false)] 57 ?_ ?_
          ·refine at_cond (b := (decide ((atF s i) = (4 : Int)))) rfl rfl (fun hc67_8 => ?_) (fun hc67_8 => ?_)
           ·skip
            refine at_seq ?_
            refine at_block ?_
            refine at_loopR (X := Int) 0 (fun (j : Int) => [(1000000, .any), (0, .yl [11]), (1, .ptr [0, 8] 0), (2, .ptr [6, 8] 0), (4, .i j), (5, .i i), (6, .ptr [10, 1, 12] 0)]) (fun (j : Int) => (b95_23 i out s)) (fun (j : Int) => i ≤ j ∧ j ≤ s.size ∧ runI (dgC s) s j = runI (dgC s) s i) (fun (j : Int) => (s.size - j).toNat) i ?_ ?_ ?_
            ·exact ⟨Int.le_refl _, by omega, rfl⟩
            ·exact rn_ok [([10, 1, 12], [10, 1, 12]), ([0, 1, 12], [0, 1, 12]), ([11], [11]), ([10], [10]), ([6, 8], [6, 8]), ([3, 8], [3, 8]), ([0, 8], [0, 8]), ([6], [6]), ([2], [2]), ([1], [1]), ([0], [0])] [[0, 1, 12], [3, 8]] [0, 1, 2, 4, 5, 6] (⟨clO_flat _ _ _, clO_flat _ _ _, trivial⟩) (by kernel_rfl)
            ·intro j hinv
             obtain ⟨hj1, hj2, hj3⟩ := hinv
             refine at_seq ?_
             refine at_B [0, 1, 2, 4, 5, 6, 72] [.std, .std, .retS (.tv (.int .u8 (atF s j)))] [StabCall Tryd.prog 99 [.i j, .ptr [0, 8] 0, .ptr [3, 8] 0] (b95_23 i out s) (.tv (.int .u8 (atF s j)))] [(1000000, .any), (0, .yl [11]), (1, .ptr [0, 8] 0), (2, .ptr [6, 8] 0), (4, .i j), (5, .i i), (6, .ptr [10, 1, 12] 0), (72, .b (decide ((atF s j) = (4 : Int))))] (b95_23 i out s) 4 (by kernel_rfl) ?_ ?_
             ·exact ⟨StabCall.mono (H := (b95_33 s)) (stab_mv (args := [.i j, .ptr [0] 0, .ptr [1] 0]) (H := (b95_41 s)) (H2 := (b95_33 s)) (q := [50]) [([0, 8], [0]), ([3, 8], [1])] [([0], [0, 8]), ([1], [3, 8])] [[3, 8]] [[1]] ((c99 j s (by (try simp only [brs, lns] at *); omega)) _ _ (fun _ _ h => h)) (by kernel_rfl) (by kernel_rfl) (⟨clO_flat _ _ _, trivial⟩) (by kernel_rfl) (by kernel_rfl) (⟨clO_flat _ _ _, trivial⟩)) (sub_cons (by kernel_rfl) (sub_cons (by kernel_rfl) sub_nil)), trivial⟩
             refine at_cond (b := (decide ((atF s j) = (4 : Int)))) rfl rfl (fun hc72_8 => ?_) (fun hc72_8 => ?_)
             ·have q72_8 := hc72_8
              (try simp only [brs] at q72_8)
              have hjn : j < s.size := dgC_lt hc72_8
              have hwr : wr (j + 1) = j + 1 := wr_ok (by omega) (by omega)
              refine at_skip ?_
              change AT _ _ _ _
              refine at_block ?_
              refine at_Bl [0, 1, 2, 4, 5, 6] [] [] [(1000000, .any), (0, .yl [11]), (1, .ptr [0, 8] 0), (2, .ptr [6, 8] 0), (4, .i (wr (j + 1))), (5, .i i), (6, .ptr [10, 1, 12] 0)] (b95_23 i out s) 7 (by kernel_rfl) ?_ ?_
              ·exact trivial
              refine ⟨rfl, (wr (j + 1)), ?_, ?_, ?_⟩
              ·(try dsimp only); rw [hwr]; omega
              ·exact ⟨by rw [hwr]; omega, by rw [hwr]; omega, by rw [hwr]; exact runI_step hj3 hj1 hjn hc72_8⟩
              ·exact rn_ok [([10, 1, 12], [10, 1, 12]), ([0, 1, 12], [0, 1, 12]), ([11], [11]), ([10], [10]), ([6, 8], [6, 8]), ([3, 8], [3, 8]), ([0, 8], [0, 8]), ([6], [6]), ([2], [2]), ([1], [1]), ([0], [0])] [[0, 1, 12], [3, 8]] [0, 1, 2, 4, 5, 6] (⟨clO_flat _ _ _, clO_flat _ _ _, trivial⟩) (by kernel_rfl)
             ·have q72_8 := hc72_8
              (try simp only [brs] at q72_8)
              have hsub : j = (runI (dgC s) s i) := runI_stop hj3 hj1 hc72_8
              subst hsub
              refine at_exit ?_
              change AT _ _ _ _
              refine at_B [0, 1, 2, 4, 5, 6] [] [] [(1000000, .any), (0, .yl [11]), (1, .ptr [0, 8] 0), (2, .ptr [6, 8] 0), (4, .i (runI (dgC s) s i)), (5, .i i), (6, .ptr [10, 1, 12] 0)] (b95_27 i out s) 27 (by kernel_rfl) ?_ ?_
              ·exact trivial
              refine at_B [0, 1, 2, 4, 5, 6, 8] [.std, .std, .retS (.tv (.int .u8 (atF s (runI (dgC s) s i))))] [StabCall Tryd.prog 99 [.i (runI (dgC s) s i), .ptr [0, 8] 0, .ptr [3, 8] 0] (b95_27 i out s) (.tv (.int .u8 (atF s (runI (dgC s) s i))))] [(1000000, .any), (0, .yl [11]), (1, .ptr [0, 8] 0), (2, .ptr [6, 8] 0), (4, .i (runI (dgC s) s i)), (5, .i i), (6, .ptr [10, 1, 12] 0), (8, .tv (.int .u8 (atF s (runI (dgC s) s i))))] (b95_27 i out s) 31 (by kernel_rfl) ?_ ?_
              ·exact ⟨StabCall.mono (H := (b95_33 s)) (stab_mv (args := [.i (runI (dgC s) s i), .ptr [0] 0, .ptr [1] 0]) (H := (b95_41 s)) (H2 := (b95_33 s)) (q := [50]) [([0, 8], [0]), ([3, 8], [1])] [([0], [0, 8]), ([1], [3, 8])] [[3, 8]] [[1]] ((c99 (runI (dgC s) s i) s (by (try simp only [brs, lns] at *); omega)) _ _ (fun _ _ h => h)) (by kernel_rfl) (by kernel_rfl) (⟨clO_flat _ _ _, trivial⟩) (by kernel_rfl) (by kernel_rfl) (⟨clO_flat _ _ _, trivial⟩)) (sub_cons (by kernel_rfl) (sub_cons (by kernel_rfl) sub_nil)), trivial⟩
              refine at_B [0, 1, 2, 4, 5, 6, 91] [] [] [(1000000, .any), (0, .yl [11]), (1, .ptr [0, 8] 0), (2, .ptr [6, 8] 0), (4, .i (runI (dgC s) s i)), (5, .i i), (6, .ptr [10, 1, 12] 0), (91, .b (((decide ((7 : Int) < wr ((runI (dgC s) s i) - i))) || (decide ((atF s (runI (dgC s) s i)) = (3 : Int)))) || (decide ((atF s (runI (dgC s) s i)) = (5 : Int)))))] (b95_27 i out s) 43 (by kernel_rfl) ?_ ?_
              ·exact trivial
              refine at_mergel (p := [1, 12]) [(1000000, .any), (0, .yl [11]), (1, .ptr [0, 8] 0), (2, .ptr [6, 8] 0), (4, .i (runI (dgC s) s i)), (5, .i i), (6, .ptr [10, 1, 12] 0)] [([10, 1, 12], .row [.i 2, .tv (.str ⟨#[]⟩), .i (bif (((decide ((7 : Int) < wr ((runI (dgC s) s i) - i))) || (decide ((atF s (runI (dgC s) s i)) = (3 : Int)))) || (decide ((atF s (runI (dgC s) s i)) = (5 : Int)))) then 0 else (atoiV (s.extract i.toNat (runI (dgC s) s i).toNat))), .i i, .i (bif (((decide ((7 : Int) < wr ((runI (dgC s) s i) - i))) || (decide ((atF s (runI (dgC s) s i)) = (3 : Int)))) || (decide ((atF s (runI (dgC s) s i)) = (5 : Int)))) then 4 else 0)] false), ([0, 1, 12], .row (flat celT out) false), ([11], .loop [(1000000, .any), (2, .ptr [0] 0), (3, .ptr [1] 0), (4, .ptr [2] 0), (5, .ptr [6] 0), (11, .fn (.func 100) [.ptr [0, 8] 0, .ptr [6, 8] 0])] 35 [12] (fcode Tryd.f95 [1, 1, 1, 0, 1, 1, 0]) (fcode Tryd.f95 [1, 1, 1, 0, 1, 1, 1]) .ready none), ([10], .dfr), ([6, 8], .row [.fn (.func 99) [.ptr [0, 8] 0, .ptr [3, 8] 0]] false), ([3, 8], .row (flat (encK .u8) clsL) false), ([0, 8], .row [.tv (.str s)] false), ([6], .row [.sl [0, 1, 12] 4 0 out.length] false), ([2], .row [.i 0] false), ([1], .row [.i 0] false), ([0], .row [.tv .nils] false)] 54 ?_ ?_
              ·refine at_cond (b := (((decide ((7 : Int) < wr ((runI (dgC s) s i) - i))) || (decide ((atF s (runI (dgC s) s i)) = (3 : Int)))) || (decide ((atF s (runI (dgC s) s i)) = (5 : Int))))) rfl rfl (fun hc91_8 => ?_) (fun hc91_8 => ?_)
               ·skip
                refine at_Bl [0, 1, 2, 4, 5, 6] [] [] [(1000000, .any), (0, .yl [11]), (1, .ptr [0, 8] 0), (2, .ptr [6, 8] 0), (4, .i (runI (dgC s) s i)), (5, .i i), (6, .ptr [10, 1, 12] 0)] (b95_38 i out s) 45 (by kernel_rfl) ?_ ?_
                ·exact trivial
                exact gh_merge [0, 1, 2, 4, 5, 6] [[10, 1, 12], [0, 1, 12], [11], [10], [6, 8], [3, 8], [0, 8], [6], [2], [1], [0]] (by kernel_rfl) (Eq.trans (b := [([10, 1, 12], .row [.i 2, .tv (.str ⟨#[]⟩), .i 0, .i i, .i 4] false), ([0, 1, 12], .row (flat celT out) false), ([11], .loop [(1000000, .any), (2, .ptr [0] 0), (3, .ptr [1] 0), (4, .ptr [2] 0), (5, .ptr [6] 0), (11, .fn (.func 100) [.ptr [0, 8] 0, .ptr [6, 8] 0])] 35 [12] (fcode Tryd.f95 [1, 1, 1, 0, 1, 1, 0]) (fcode Tryd.f95 [1, 1, 1, 0, 1, 1, 1]) .ready none), ([10], .dfr), ([6, 8], .row [.fn (.func 99) [.ptr [0, 8] 0, .ptr [3, 8] 0]] false), ([3, 8], .row (flat (encK .u8) clsL) false), ([0, 8], .row [.tv (.str s)] false), ([6], .row [.sl [0, 1, 12] 4 0 out.length] false), ([2], .row [.i 0] false), ([1], .row [.i 0] false), ([0], .row [.tv .nils] false)]) (by kernel_rfl) (by simp only [hc91_8, cond_true, cond_false]; try rfl)) (by kernel_rfl)
               ·skip
                refine at_Bl [0, 1, 2, 4, 5, 6] [.std, .std, .std, .std, .ret (.tup [.i (atoiV (s.extract i.toNat (runI (dgC s) s i).toNat)), .tv .nili])] [(0 ≤ i ∧ i ≤ (runI (dgC s) s i) ∧ (runI (dgC s) s i) ≤ ((s.size : Nat) : Int)), PureCall Tryd.prog 101 [.tv (.str (s.extract i.toNat (runI (dgC s) s i).toNat))] (.tup [.i (atoiV (s.extract i.toNat (runI (dgC s) s i).toNat)), .tv .nili])] [(1000000, .any), (0, .yl [11]), (1, .ptr [0, 8] 0), (2, .ptr [6, 8] 0), (4, .i (runI (dgC s) s i)), (5, .i i), (6, .ptr [10, 1, 12] 0)] (b95_44 s i out) 54 (by kernel_rfl) ?_ ?_
                ·exact ⟨by (try simp only [lns] at *); omega, (c101 (s.extract i.toNat (runI (dgC s) s i).toNat) (atoi_1 hx0 q13_8 hc67_8) (atoi_2 hx0 q13_8 q9 hc91_8) (atoi_3 hx0 q13_8 hc67_8)), trivial⟩
                exact gh_merge [0, 1, 2, 4, 5, 6] [[10, 1, 12], [0, 1, 12], [11], [10], [6, 8], [3, 8], [0, 8], [6], [2], [1], [0]] (by kernel_rfl) (Eq.trans (b := [([10, 1, 12], .row [.i 2, .tv (.str ⟨#[]⟩), .i (atoiV (s.extract i.toNat (runI (dgC s) s i).toNat)), .i i, .i 0] false), ([0, 1, 12], .row (flat celT out) false), ([11], .loop [(1000000, .any), (2, .ptr [0] 0), (3, .ptr [1] 0), (4, .ptr [2] 0), (5, .ptr [6] 0), (11, .fn (.func 100) [.ptr [0, 8] 0, .ptr [6, 8] 0])] 35 [12] (fcode Tryd.f95 [1, 1, 1, 0, 1, 1, 0]) (fcode Tryd.f95 [1, 1, 1, 0, 1, 1, 1]) .ready none), ([10], .dfr), ([6, 8], .row [.fn (.func 99) [.ptr [0, 8] 0, .ptr [3, 8] 0]] false), ([3, 8], .row (flat (encK .u8) clsL) false), ([0, 8], .row [.tv (.str s)] false), ([6], .row [.sl [0, 1, 12] 4 0 out.length] false), ([2], .row [.i 0] false), ([1], .row [.i 0] false), ([0], .row [.tv .nils] false)]) (by kernel_rfl) (by simp only [hc91_8, cond_true, cond_false]; try rfl)) (by kernel_rfl)
              exact gh_merge [0, 1, 2, 4, 5, 6] [[10, 1, 12], [0, 1, 12], [11], [10], [6, 8], [3, 8], [0, 8], [6], [2], [1], [0]] (Eq.trans (b := [(1000000, .any), (0, .yl [11]), (1, .ptr [0, 8] 0), (2, .ptr [6, 8] 0), (4, .i (runI (dgC s) s i)), (5, .i i), (6, .ptr [10, 1, 12] 0)]) (by kernel_rfl) (by simp only [hc67_8, cond_true, cond_false]; try rfl)) (Eq.trans (b := [([10, 1, 12], .row [.i 2, .tv (.str ⟨#[]⟩), .i (bif (((decide ((7 : Int) < wr ((runI (dgC s) s i) - i))) || (decide ((atF s (runI (dgC s) s i)) = (3 : Int)))) || (decide ((atF s (runI (dgC s) s i)) = (5 : Int)))) then 0 else (atoiV (s.extract i.toNat (runI (dgC s) s i).toNat))), .i i, .i (bif (((decide ((7 : Int) < wr ((runI (dgC s) s i) - i))) || (decide ((atF s (runI (dgC s) s i)) = (3 : Int)))) || (decide ((atF s (runI (dgC s) s i)) = (5 : Int)))) then 4 else 0)] false), ([0, 1, 12], .row (flat celT out) false), ([11], .loop [(1000000, .any), (2, .ptr [0] 0), (3, .ptr [1] 0), (4, .ptr [2] 0), (5, .ptr [6] 0), (11, .fn (.func 100) [.ptr [0, 8] 0, .ptr [6, 8] 0])] 35 [12] (fcode Tryd.f95 [1, 1, 1, 0, 1, 1, 0]) (fcode Tryd.f95 [1, 1, 1, 0, 1, 1, 1]) .ready none), ([10], .dfr), ([6, 8], .row [.fn (.func 99) [.ptr [0, 8] 0, .ptr [3, 8] 0]] false), ([3, 8], .row (flat (encK .u8) clsL) false), ([0, 8], .row [.tv (.str s)] false), ([6], .row [.sl [0, 1, 12] 4 0 out.length] false), ([2], .row [.i 0] false), ([1], .row [.i 0] false), ([0], .row [.tv .nils] false)]) (by kernel_rfl) (by simp only [hc67_8, cond_true, cond_false]; try rfl)) (by kernel_rfl)
           ·skip
            refine at_seq ?_
            refine at_B [0, 1, 2, 4, 5, 6, 20, 103] [] [] [(1000000, .any), (0, .yl [11]), (1, .ptr [0, 8] 0), (2, .ptr [6, 8] 0), (4, .i i), (5, .i i), (6, .ptr [10, 1, 12] 0), (20, .tv (.int .u8 (atF s i))), (103, .b (decide ((atF s i) = (6 : Int))))] (b95_23 i out s) 25 (by kernel_rfl) ?_ ?_
            ·exact trivial
            refine at_mergel (p := [1, 12]) [(1000000, .any), (0, .yl [11]), (1, .ptr [0, 8] 0), (2, .ptr [6, 8] 0), (4, .i i), (5, .i i), (6, .ptr [10, 1, 12] 0), (103, .b (bif (decide ((atF s i) = (6 : Int))) then (decide ((atF s i) = (6 : Int))) else (bif (decide ((atF s i) = (7 : Int))) then (decide ((atF s i) = (7 : Int))) else (decide ((atF s i) = (8 : Int))))))] [([10, 1, 12], .row [.i 0, .tv (.str ⟨#[]⟩), .i 0, .i i, .i 0] false), ([0, 1, 12], .row (flat celT out) false), ([11], .loop [(1000000, .any), (2, .ptr [0] 0), (3, .ptr [1] 0), (4, .ptr [2] 0), (5, .ptr [6] 0), (11, .fn (.func 100) [.ptr [0, 8] 0, .ptr [6, 8] 0])] 35 [12] (fcode Tryd.f95 [1, 1, 1, 0, 1, 1, 0]) (fcode Tryd.f95 [1, 1, 1, 0, 1, 1, 1]) .ready none), ([10], .dfr), ([6, 8], .row [.fn (.func 99) [.ptr [0, 8] 0, .ptr [3, 8] 0]] false), ([3, 8], .row (flat (encK .u8) clsL) false), ([0, 8], .row [.tv (.str s)] false), ([6], .row [.sl [0, 1, 12] 4 0 out.length] false), ([2], .row [.i 0] false), ([1], .row [.i 0] false), ([0], .row [.tv .nils] false)] 29 ?_ ?_
            ·refine at_cond (b := (decide ((atF s i) = (6 : Int)))) rfl rfl (fun hc103_8 => ?_) (fun hc103_8 => ?_)
             ·skip
              refine at_skip ?_
              exact gh_merge [0, 1, 2, 4, 5, 6, 103] [[10, 1, 12], [0, 1, 12], [11], [10], [6, 8], [3, 8], [0, 8], [6], [2], [1], [0]] (Eq.trans (b := [(1000000, .any), (0, .yl [11]), (1, .ptr [0, 8] 0), (2, .ptr [6, 8] 0), (4, .i i), (5, .i i), (6, .ptr [10, 1, 12] 0), (103, .b (decide ((atF s i) = (6 : Int))))]) (by kernel_rfl) (by simp only [hc103_8, cond_true, cond_false]; try rfl)) (by kernel_rfl) (by kernel_rfl)
             ·skip
              refine at_B [0, 1, 2, 4, 5, 6, 20, 103] [] [] [(1000000, .any), (0, .yl [11]), (1, .ptr [0, 8] 0), (2, .ptr [6, 8] 0), (4, .i i), (5, .i i), (6, .ptr [10, 1, 12] 0), (20, .tv (.int .u8 (atF s i))), (103, .b (decide ((atF s i) = (7 : Int))))] (b95_23 i out s) 27 (by kernel_rfl) ?_ ?_
              ·exact trivial
              refine at_mergel (p := [1, 12]) [(1000000, .any), (0, .yl [11]), (1, .ptr [0, 8] 0), (2, .ptr [6, 8] 0), (4, .i i), (5, .i i), (6, .ptr [10, 1, 12] 0), (103, .b (bif (decide ((atF s i) = (7 : Int))) then (decide ((atF s i) = (7 : Int))) else (decide ((atF s i) = (8 : Int)))))] [([10, 1, 12], .row [.i 0, .tv (.str ⟨#[]⟩), .i 0, .i i, .i 0] false), ([0, 1, 12], .row (flat celT out) false), ([11], .loop [(1000000, .any), (2, .ptr [0] 0), (3, .ptr [1] 0), (4, .ptr [2] 0), (5, .ptr [6] 0), (11, .fn (.func 100) [.ptr [0, 8] 0, .ptr [6, 8] 0])] 35 [12] (fcode Tryd.f95 [1, 1, 1, 0, 1, 1, 0]) (fcode Tryd.f95 [1, 1, 1, 0, 1, 1, 1]) .ready none), ([10], .dfr), ([6, 8], .row [.fn (.func 99) [.ptr [0, 8] 0, .ptr [3, 8] 0]] false), ([3, 8], .row (flat (encK .u8) clsL) false), ([0, 8], .row [.tv (.str s)] false), ([6], .row [.sl [0, 1, 12] 4 0 out.length] false), ([2], .row [.i 0] false), ([1], .row [.i 0] false), ([0], .row [.tv .nils] false)] 29 ?_ ?_
              ·refine at_cond (b := (decide ((atF s i) = (7 : Int)))) rfl rfl (fun hc103_8 => ?_) (fun hc103_8 => ?_)
               ·skip
                refine at_skip ?_
                exact gh_merge [0, 1, 2, 4, 5, 6, 103] [[10, 1, 12], [0, 1, 12], [11], [10], [6, 8], [3, 8], [0, 8], [6], [2], [1], [0]] (Eq.trans (b := [(1000000, .any), (0, .yl [11]), (1, .ptr [0, 8] 0), (2, .ptr [6, 8] 0), (4, .i i), (5, .i i), (6, .ptr [10, 1, 12] 0), (103, .b (decide ((atF s i) = (7 : Int))))]) (by kernel_rfl) (by simp only [hc103_8, cond_true, cond_false]; try rfl)) (by kernel_rfl) (by kernel_rfl)
               ·skip
                refine at_Bl [0, 1, 2, 4, 5, 6, 103] [] [] [(1000000, .any), (0, .yl [11]), (1, .ptr [0, 8] 0), (2, .ptr [6, 8] 0), (4, .i i), (5, .i i), (6, .ptr [10, 1, 12] 0), (103, .b (decide ((atF s i) = (8 : Int))))] (b95_23 i out s) 29 (by kernel_rfl) ?_ ?_
                ·exact trivial
                exact gh_merge [0, 1, 2, 4, 5, 6, 103] [[10, 1, 12], [0, 1, 12], [11], [10], [6, 8], [3, 8], [0, 8], [6], [2], [1], [0]] (Eq.trans (b := [(1000000, .any), (0, .yl [11]), (1, .ptr [0, 8] 0), (2, .ptr [6, 8] 0), (4, .i i), (5, .i i), (6, .ptr [10, 1, 12] 0), (103, .b (decide ((atF s i) = (8 : Int))))]) (by kernel_rfl) (by simp only [hc103_8, cond_true, cond_false]; try rfl)) (by kernel_rfl) (by kernel_rfl)
              exact gh_merge [0, 1, 2, 4, 5, 6, 103] [[10, 1, 12], [0, 1, 12], [11], [10], [6, 8], [3, 8], [0, 8], [6], [2], [1], [0]] (Eq.trans (b := [(1000000, .any), (0, .yl [11]), (1, .ptr [0, 8] 0), (2, .ptr [6, 8] 0), (4, .i i), (5, .i i), (6, .ptr [10, 1, 12] 0), (103, .b (bif (decide ((atF s i) = (7 : Int))) then (decide ((atF s i) = (7 : Int))) else (decide ((atF s i) = (8 : Int)))))]) (by kernel_rfl) (by simp only [hc103_8, cond_true, cond_false]; try rfl)) (by kernel_rfl) (by kernel_rfl)
            change AT _ _ _ _
            refine at_mergel (p := [1, 12]) [(1000000, .any), (0, .yl [11]), (1, .ptr [0, 8] 0), (2, .ptr [6, 8] 0), (4, .i (bif (bif (decide ((atF s i) = (6 : Int))) then (decide ((atF s i) = (6 : Int))) else (bif (decide ((atF s i) = (7 : Int))) then (decide ((atF s i) = (7 : Int))) else (decide ((atF s i) = (8 : Int))))) then (bif (((!decide ((atF s i) = (6 : Int))) && (decide (wr (i + 1) < ((s.size : Nat) : Int)))) && (decide (sbyte s (wr (i + 1)) = (61 : Int)))) then wr ((wr (i + 1)) + 1) else wr (i + 1)) else i)), (5, .i i), (6, .ptr [10, 1, 12] 0)] [([10, 1, 12], .row [.i (bif (bif (decide ((atF s i) = (6 : Int))) then (decide ((atF s i) = (6 : Int))) else (bif (decide ((atF s i) = (7 : Int))) then (decide ((atF s i) = (7 : Int))) else (decide ((atF s i) = (8 : Int))))) then 3 else 0), .tv (.str ⟨#[]⟩), .i 0, .i i, .i (bif (bif (decide ((atF s i) = (6 : Int))) then (decide ((atF s i) = (6 : Int))) else (bif (decide ((atF s i) = (7 : Int))) then (decide ((atF s i) = (7 : Int))) else (decide ((atF s i) = (8 : Int))))) then (bif (((!decide ((atF s i) = (6 : Int))) && (decide (wr (i + 1) < ((s.size : Nat) : Int)))) && (decide (sbyte s (wr (i + 1)) = (61 : Int)))) then 0 else (bif (decide ((atF s i) = (8 : Int))) then 3 else 0)) else 3)] false), ([0, 1, 12], .row (flat celT out) false), ([11], .loop [(1000000, .any), (2, .ptr [0] 0), (3, .ptr [1] 0), (4, .ptr [2] 0), (5, .ptr [6] 0), (11, .fn (.func 100) [.ptr [0, 8] 0, .ptr [6, 8] 0])] 35 [12] (fcode Tryd.f95 [1, 1, 1, 0, 1, 1, 0]) (fcode Tryd.f95 [1, 1, 1, 0, 1, 1, 1]) .ready none), ([10], .dfr), ([6, 8], .row [.fn (.func 99) [.ptr [0, 8] 0, .ptr [3, 8] 0]] false), ([3, 8], .row (flat (encK .u8) clsL) false), ([0, 8], .row [.tv (.str s)] false), ([6], .row [.sl [0, 1, 12] 4 0 out.length] false), ([2], .row [.i 0] false), ([1], .row [.i 0] false), ([0], .row [.tv .nils] false)] 57 ?_ ?_
            ·refine at_cond (b := (bif (decide ((atF s i) = (6 : Int))) then (decide ((atF s i) = (6 : Int))) else (bif (decide ((atF s i) = (7 : Int))) then (decide ((atF s i) = (7 : Int))) else (decide ((atF s i) = (8 : Int)))))) rfl rfl (fun hc103_8 => ?_) (fun hc103_8 => ?_)
             ·skip
              refine at_B [0, 1, 2, 4, 5, 6] [] [] [(1000000, .any), (0, .yl [11]), (1, .ptr [0, 8] 0), (2, .ptr [6, 8] 0), (4, .i i), (5, .i i), (6, .ptr [10, 1, 12] 0)] (b95_26 i out s) 32 (by kernel_rfl) ?_ ?_
              ·exact trivial
              refine at_B [0, 1, 2, 4, 5, 6] [] [] [(1000000, .any), (0, .yl [11]), (1, .ptr [0, 8] 0), (2, .ptr [6, 8] 0), (4, .i (wr (i + 1))), (5, .i i), (6, .ptr [10, 1, 12] 0)] (b95_26 i out s) 35 (by kernel_rfl) ?_ ?_
              ·exact trivial
              refine at_B [0, 1, 2, 4, 5, 6, 9] [.std, .std, .retS (.tv (.int .u8 (atF s i)))] [StabCall Tryd.prog 99 [.i i, .ptr [0, 8] 0, .ptr [3, 8] 0] (b95_26 i out s) (.tv (.int .u8 (atF s i)))] [(1000000, .any), (0, .yl [11]), (1, .ptr [0, 8] 0), (2, .ptr [6, 8] 0), (4, .i (wr (i + 1))), (5, .i i), (6, .ptr [10, 1, 12] 0), (9, .tv (.int .u8 (atF s i)))] (b95_26 i out s) 39 (by kernel_rfl) ?_ ?_
              ·exact ⟨StabCall.mono (H := (b95_33 s)) (stab_mv (args := [.i i, .ptr [0] 0, .ptr [1] 0]) (H := (b95_41 s)) (H2 := (b95_33 s)) (q := [50]) [([0, 8], [0]), ([3, 8], [1])] [([0], [0, 8]), ([1], [3, 8])] [[3, 8]] [[1]] ((c99 i s (by (try simp only [brs, lns] at *); omega)) _ _ (fun _ _ h => h)) (by kernel_rfl) (by kernel_rfl) (⟨clO_flat _ _ _, trivial⟩) (by kernel_rfl) (by kernel_rfl) (⟨clO_flat _ _ _, trivial⟩)) (sub_cons (by kernel_rfl) (sub_cons (by kernel_rfl) sub_nil)), trivial⟩
              have hw1 : wr (i + 1) = i + 1 := wr_ok (by omega) (by omega)
              refine at_B [0, 1, 2, 4, 5, 6, 9, 127] [] [(((!decide ((atF s i) = (6 : Int))) && (decide (wr (i + 1) < ((s.size : Nat) : Int)))) = true) → (0 ≤ wr (i + 1) ∧ wr (i + 1) < ((s.size : Nat) : Int))] [(1000000, .any), (0, .yl [11]), (1, .ptr [0, 8] 0), (2, .ptr [6, 8] 0), (4, .i (wr (i + 1))), (5, .i i), (6, .ptr [10, 1, 12] 0), (9, .tv (.int .u8 (atF s i))), (127, .b (((!decide ((atF s i) = (6 : Int))) && (decide (wr (i + 1) < ((s.size : Nat) : Int)))) && (decide (sbyte s (wr (i + 1)) = (61 : Int)))))] (b95_26 i out s) 53 (by kernel_rfl) ?_ ?_
              ·exact ⟨fun hg0 => by (try simp only [brs, lns] at *); omega, trivial⟩
              refine at_mergel (p := [1, 12]) [(1000000, .any), (0, .yl [11]), (1, .ptr [0, 8] 0), (2, .ptr [6, 8] 0), (4, .i (bif (((!decide ((atF s i) = (6 : Int))) && (decide (wr (i + 1) < ((s.size : Nat) : Int)))) && (decide (sbyte s (wr (i + 1)) = (61 : Int)))) then wr ((wr (i + 1)) + 1) else wr (i + 1))), (5, .i i), (6, .ptr [10, 1, 12] 0)] [([10, 1, 12], .row [.i 3, .tv (.str ⟨#[]⟩), .i 0, .i i, .i (bif (((!decide ((atF s i) = (6 : Int))) && (decide (wr (i + 1) < ((s.size : Nat) : Int)))) && (decide (sbyte s (wr (i + 1)) = (61 : Int)))) then 0 else (bif (decide ((atF s i) = (8 : Int))) then 3 else 0))] false), ([0, 1, 12], .row (flat celT out) false), ([11], .loop [(1000000, .any), (2, .ptr [0] 0), (3, .ptr [1] 0), (4, .ptr [2] 0), (5, .ptr [6] 0), (11, .fn (.func 100) [.ptr [0, 8] 0, .ptr [6, 8] 0])] 35 [12] (fcode Tryd.f95 [1, 1, 1, 0, 1, 1, 0]) (fcode Tryd.f95 [1, 1, 1, 0, 1, 1, 1]) .ready none), ([10], .dfr), ([6, 8], .row [.fn (.func 99) [.ptr [0, 8] 0, .ptr [3, 8] 0]] false), ([3, 8], .row (flat (encK .u8) clsL) false), ([0, 8], .row [.tv (.str s)] false), ([6], .row [.sl [0, 1, 12] 4 0 out.length] false), ([2], .row [.i 0] false), ([1], .row [.i 0] false), ([0], .row [.tv .nils] false)] 57 ?_ ?_
              ·refine at_cond (b := (((!decide ((atF s i) = (6 : Int))) && (decide (wr (i + 1) < ((s.size : Nat) : Int)))) && (decide (sbyte s (wr (i + 1)) = (61 : Int))))) rfl rfl (fun hc127_8 => ?_) (fun hc127_8 => ?_)
               ·skip
                refine at_Bl [0, 1, 2, 4, 5, 6] [] [] [(1000000, .any), (0, .yl [11]), (1, .ptr [0, 8] 0), (2, .ptr [6, 8] 0), (4, .i (wr ((wr (i + 1)) + 1))), (5, .i i), (6, .ptr [10, 1, 12] 0)] (b95_26 i out s) 56 (by kernel_rfl) ?_ ?_
                ·exact trivial
                exact gh_merge [0, 1, 2, 4, 5, 6] [[10, 1, 12], [0, 1, 12], [11], [10], [6, 8], [3, 8], [0, 8], [6], [2], [1], [0]] (Eq.trans (b := [(1000000, .any), (0, .yl [11]), (1, .ptr [0, 8] 0), (2, .ptr [6, 8] 0), (4, .i (wr ((wr (i + 1)) + 1))), (5, .i i), (6, .ptr [10, 1, 12] 0)]) (by kernel_rfl) (by simp only [hc127_8, cond_true, cond_false]; try rfl)) (Eq.trans (b := [([10, 1, 12], .row [.i 3, .tv (.str ⟨#[]⟩), .i 0, .i i, .i 0] false), ([0, 1, 12], .row (flat celT out) false), ([11], .loop [(1000000, .any), (2, .ptr [0] 0), (3, .ptr [1] 0), (4, .ptr [2] 0), (5, .ptr [6] 0), (11, .fn (.func 100) [.ptr [0, 8] 0, .ptr [6, 8] 0])] 35 [12] (fcode Tryd.f95 [1, 1, 1, 0, 1, 1, 0]) (fcode Tryd.f95 [1, 1, 1, 0, 1, 1, 1]) .ready none), ([10], .dfr), ([6, 8], .row [.fn (.func 99) [.ptr [0, 8] 0, .ptr [3, 8] 0]] false), ([3, 8], .row (flat (encK .u8) clsL) false), ([0, 8], .row [.tv (.str s)] false), ([6], .row [.sl [0, 1, 12] 4 0 out.length] false), ([2], .row [.i 0] false), ([1], .row [.i 0] false), ([0], .row [.tv .nils] false)]) (by kernel_rfl) (by simp only [hc127_8, cond_true, cond_false]; try rfl)) (by kernel_rfl)
               ·skip
                refine at_B [0, 1, 2, 4, 5, 6, 131] [] [] [(1000000, .any), (0, .yl [11]), (1, .ptr [0, 8] 0), (2, .ptr [6, 8] 0), (4, .i (wr (i + 1))), (5, .i i), (6, .ptr [10, 1, 12] 0), (131, .b (decide ((atF s i) = (8 : Int))))] (b95_26 i out s) 55 (by kernel_rfl) ?_ ?_
                ·exact trivial
                refine at_mergel (p := [1, 12]) [(1000000, .any), (0, .yl [11]), (1, .ptr [0, 8] 0), (2, .ptr [6, 8] 0), (4, .i (wr (i + 1))), (5, .i i), (6, .ptr [10, 1, 12] 0)] [([10, 1, 12], .row [.i 3, .tv (.str ⟨#[]⟩), .i 0, .i i, .i (bif (decide ((atF s i) = (8 : Int))) then 3 else 0)] false), ([0, 1, 12], .row (flat celT out) false), ([11], .loop [(1000000, .any), (2, .ptr [0] 0), (3, .ptr [1] 0), (4, .ptr [2] 0), (5, .ptr [6] 0), (11, .fn (.func 100) [.ptr [0, 8] 0, .ptr [6, 8] 0])] 35 [12] (fcode Tryd.f95 [1, 1, 1, 0, 1, 1, 0]) (fcode Tryd.f95 [1, 1, 1, 0, 1, 1, 1]) .ready none), ([10], .dfr), ([6, 8], .row [.fn (.func 99) [.ptr [0, 8] 0, .ptr [3, 8] 0]] false), ([3, 8], .row (flat (encK .u8) clsL) false), ([0, 8], .row [.tv (.str s)] false), ([6], .row [.sl [0, 1, 12] 4 0 out.length] false), ([2], .row [.i 0] false), ([1], .row [.i 0] false), ([0], .row [.tv .nils] false)] 57 ?_ ?_
                ·refine at_cond (b := (decide ((atF s i) = (8 : Int)))) rfl rfl (fun hc131_8 => ?_) (fun hc131_8 => ?_)
                 ·skip
                  refine at_Bl [0, 1, 2, 4, 5, 6] [] [] [(1000000, .any), (0, .yl [11]), (1, .ptr [0, 8] 0), (2, .ptr [6, 8] 0), (4, .i (wr (i + 1))), (5, .i i), (6, .ptr [10, 1, 12] 0)] (b95_39 i out s) 57 (by kernel_rfl) ?_ ?_
                  ·exact trivial
                  exact gh_merge [0, 1, 2, 4, 5, 6] [[10, 1, 12], [0, 1, 12], [11], [10], [6, 8], [3, 8], [0, 8], [6], [2], [1], [0]] (by kernel_rfl) (Eq.trans (b := [([10, 1, 12], .row [.i 3, .tv (.str ⟨#[]⟩), .i 0, .i i, .i 3] false), ([0, 1, 12], .row (flat celT out) false), ([11], .loop [(1000000, .any), (2, .ptr [0] 0), (3, .ptr [1] 0), (4, .ptr [2] 0), (5, .ptr [6] 0), (11, .fn (.func 100) [.ptr [0, 8] 0, .ptr [6, 8] 0])] 35 [12] (fcode Tryd.f95 [1, 1, 1, 0, 1, 1, 0]) (fcode Tryd.f95 [1, 1, 1, 0, 1, 1, 1]) .ready none), ([10], .dfr), ([6, 8], .row [.fn (.func 99) [.ptr [0, 8] 0, .ptr [3, 8] 0]] false), ([3, 8], .row (flat (encK .u8) clsL) false), ([0, 8], .row [.tv (.str s)] false), ([6], .row [.sl [0, 1, 12] 4 0 out.length] false), ([2], .row [.i 0] false), ([1], .row [.i 0] false), ([0], .row [.tv .nils] false)]) (by kernel_rfl) (by simp only [hc131_8, cond_true, cond_false]; try rfl)) (by kernel_rfl)
                 ·skip
                  refine at_skip ?_
                  exact gh_merge [0, 1, 2, 4, 5, 6] [[10, 1, 12], [0, 1, 12], [11], [10], [6, 8], [3, 8], [0, 8], [6], [2], [1], [0]] (by kernel_rfl) (Eq.trans (b := [([10, 1, 12], .row [.i 3, .tv (.str ⟨#[]⟩), .i 0, .i i, .i 0] false), ([0, 1, 12], .row (flat celT out) false), ([11], .loop [(1000000, .any), (2, .ptr [0] 0), (3, .ptr [1] 0), (4, .ptr [2] 0), (5, .ptr [6] 0), (11, .fn (.func 100) [.ptr [0, 8] 0, .ptr [6, 8] 0])] 35 [12] (fcode Tryd.f95 [1, 1, 1, 0, 1, 1, 0]) (fcode Tryd.f95 [1, 1, 1, 0, 1, 1, 1]) .ready none), ([10], .dfr), ([6, 8], .row [.fn (.func 99) [.ptr [0, 8] 0, .ptr [3, 8] 0]] false), ([3, 8], .row (flat (encK .u8) clsL) false), ([0, 8], .row [.tv (.str s)] false), ([6], .row [.sl [0, 1, 12] 4 0 out.length] false), ([2], .row [.i 0] false), ([1], .row [.i 0] false), ([0], .row [.tv .nils] false)]) (by kernel_rfl) (by simp only [hc131_8, cond_true, cond_false]; try rfl)) (by kernel_rfl)
                exact gh_merge [0, 1, 2, 4, 5, 6] [[10, 1, 12], [0, 1, 12], [11], [10], [6, 8], [3, 8], [0, 8], [6], [2], [1], [0]] (Eq.trans (b := [(1000000, .any), (0, .yl [11]), (1, .ptr [0, 8] 0), (2, .ptr [6, 8] 0), (4, .i (wr (i + 1))), (5, .i i), (6, .ptr [10, 1, 12] 0)]) (by kernel_rfl) (by simp only [hc127_8, cond_true, cond_false]; try rfl)) (Eq.trans (b := [([10, 1, 12], .row [.i 3, .tv (.str ⟨#[]⟩), .i 0, .i i, .i (bif (decide ((atF s i) = (8 : Int))) then 3 else 0)] false), ([0, 1, 12], .row (flat celT out) false), ([11], .loop [(1000000, .any), (2, .ptr [0] 0), (3, .ptr [1] 0), (4, .ptr [2] 0), (5, .ptr [6] 0), (11, .fn (.func 100) [.ptr [0, 8] 0, .ptr [6, 8] 0])] 35 [12] (fcode Tryd.f95 [1, 1, 1, 0, 1, 1, 0]) (fcode Tryd.f95 [1, 1, 1, 0, 1, 1, 1]) .ready none), ([10], .dfr), ([6, 8], .row [.fn (.func 99) [.ptr [0, 8] 0, .ptr [3, 8] 0]] false), ([3, 8], .row (flat (encK .u8) clsL) false), ([0, 8], .row [.tv (.str s)] false), ([6], .row [.sl [0, 1, 12] 4 0 out.length] false), ([2], .row [.i 0] false), ([1], .row [.i 0] false), ([0], .row [.tv .nils] false)]) (by kernel_rfl) (by simp only [hc127_8, cond_true, cond_false]; try rfl)) (by kernel_rfl)
              exact gh_merge [0, 1, 2, 4, 5, 6] [[10, 1, 12], [0, 1, 12], [11], [10], [6, 8], [3, 8], [0, 8], [6], [2], [1], [0]] (Eq.trans (b := [(1000000, .any), (0, .yl [11]), (1, .ptr [0, 8] 0), (2, .ptr [6, 8] 0), (4, .i (bif (((!decide ((atF s i) = (6 : Int))) && (decide (wr (i + 1) < ((s.size : Nat) : Int)))) && (decide (sbyte s (wr (i + 1)) = (61 : Int)))) then wr ((wr (i + 1)) + 1) else wr (i + 1))), (5, .i i), (6, .ptr [10, 1, 12] 0)]) (by kernel_rfl) (by simp only [hc103_8, cond_true, cond_false]; try rfl)) (Eq.trans (b := [([10, 1, 12], .row [.i 3, .tv (.str ⟨#[]⟩), .i 0, .i i, .i (bif (((!decide ((atF s i) = (6 : Int))) && (decide (wr (i + 1) < ((s.size : Nat) : Int)))) && (decide (sbyte s (wr (i + 1)) = (61 : Int)))) then 0 else (bif (decide ((atF s i) = (8 : Int))) then 3 else 0))] false), ([0, 1, 12], .row (flat celT out) false), ([11], .loop [(1000000, .any), (2, .ptr [0] 0), (3, .ptr [1] 0), (4, .ptr [2] 0), (5, .ptr [6] 0), (11, .fn (.func 100) [.ptr [0, 8] 0, .ptr [6, 8] 0])] 35 [12] (fcode Tryd.f95 [1, 1, 1, 0, 1, 1, 0]) (fcode Tryd.f95 [1, 1, 1, 0, 1, 1, 1]) .ready none), ([10], .dfr), ([6, 8], .row [.fn (.func 99) [.ptr [0, 8] 0, .ptr [3, 8] 0]] false), ([3, 8], .row (flat (encK .u8) clsL) false), ([0, 8], .row [.tv (.str s)] false), ([6], .row [.sl [0, 1, 12] 4 0 out.length] false), ([2], .row [.i 0] false), ([1], .row [.i 0] false), ([0], .row [.tv .nils] false)]) (by kernel_rfl) (by simp only [hc103_8, cond_true, cond_false]; try rfl)) (by kernel_rfl)
             ·skip
              refine at_Bl [0, 1, 2, 4, 5, 6] [] [] [(1000000, .any), (0, .yl [11]), (1, .ptr [0, 8] 0), (2, .ptr [6, 8] 0), (4, .i i), (5, .i i), (6, .ptr [10, 1, 12] 0)] (b95_40 i out s) 31 (by kernel_rfl) ?_ ?_
              ·exact trivial
              exact gh_merge [0, 1, 2, 4, 5, 6] [[10, 1, 12], [0, 1, 12], [11], [10], [6, 8], [3, 8], [0, 8], [6], [2], [1], [0]] (Eq.trans (b := [(1000000, .any), (0, .yl [11]), (1, .ptr [0, 8] 0), (2, .ptr [6, 8] 0), (4, .i i), (5, .i i), (6, .ptr [10, 1, 12] 0)]) (by kernel_rfl) (by simp only [hc103_8, cond_true, cond_false]; try rfl)) (Eq.trans (b := [([10, 1, 12], .row [.i 0, .tv (.str ⟨#[]⟩), .i 0, .i i, .i 3] false), ([0, 1, 12], .row (flat celT out) false), ([11], .loop [(1000000, .any), (2, .ptr [0] 0), (3, .ptr [1] 0), (4, .ptr [2] 0), (5, .ptr [6] 0), (11, .fn (.func 100) [.ptr [0, 8] 0, .ptr [6, 8] 0])] 35 [12] (fcode Tryd.f95 [1, 1, 1, 0, 1, 1, 0]) (fcode Tryd.f95 [1, 1, 1, 0, 1, 1, 1]) .ready none), ([10], .dfr), ([6, 8], .row [.fn (.func 99) [.ptr [0, 8] 0, .ptr [3, 8] 0]] false), ([3, 8], .row (flat (encK .u8) clsL) false), ([0, 8], .row [.tv (.str s)] false), ([6], .row [.sl [0, 1, 12] 4 0 out.length] false), ([2], .row [.i 0] false), ([1], .row [.i 0] false), ([0], .row [.tv .nils] false)]) (by kernel_rfl) (by simp only [hc103_8, cond_true, cond_false]; try rfl)) (by kernel_rfl)
            exact gh_merge [0, 1, 2, 4, 5, 6] [[10, 1, 12], [0, 1, 12], [11], [10], [6, 8], [3, 8], [0, 8], [6], [2], [1], [0]] (Eq.trans (b := [(1000000, .any), (0, .yl [11]), (1, .ptr [0, 8] 0), (2, .ptr [6, 8] 0), (4, .i (bif (bif (decide ((atF s i) = (6 : Int))) then (decide ((atF s i) = (6 : Int))) else (bif (decide ((atF s i) = (7 : Int))) then (decide ((atF s i) = (7 : Int))) else (decide ((atF s i) = (8 : Int))))) then (bif (((!decide ((atF s i) = (6 : Int))) && (decide (wr (i + 1) < ((s.size : Nat) : Int)))) && (decide (sbyte s (wr (i + 1)) = (61 : Int)))) then wr ((wr (i + 1)) + 1) else wr (i + 1)) else i)), (5, .i i), (6, .ptr [10, 1, 12] 0)]) (by kernel_rfl) (by simp only [hc67_8, cond_true, cond_false]; try rfl)) (Eq.trans (b := [([10, 1, 12], .row [.i (bif (bif (decide ((atF s i) = (6 : Int))) then (decide ((atF s i) = (6 : Int))) else (bif (decide ((atF s i) = (7 : Int))) then (decide ((atF s i) = (7 : Int))) else (decide ((atF s i) = (8 : Int))))) then 3 else 0), .tv (.str ⟨#[]⟩), .i 0, .i i, .i (bif (bif (decide ((atF s i) = (6 : Int))) then (decide ((atF s i) = (6 : Int))) else (bif (decide ((atF s i) = (7 : Int))) then (decide ((atF s i) = (7 : Int))) else (decide ((atF s i) = (8 : Int))))) then (bif (((!decide ((atF s i) = (6 : Int))) && (decide (wr (i + 1) < ((s.size : Nat) : Int)))) && (decide (sbyte s (wr (i + 1)) = (61 : Int)))) then 0 else (bif (decide ((atF s i) = (8 : Int))) then 3 else 0)) else 3)] false), ([0, 1, 12], .row (flat celT out) false), ([11], .loop [(1000000, .any), (2, .ptr [0] 0), (3, .ptr [1] 0), (4, .ptr [2] 0), (5, .ptr [6] 0), (11, .fn (.func 100) [.ptr [0, 8] 0, .ptr [6, 8] 0])] 35 [12] (fcode Tryd.f95 [1, 1, 1, 0, 1, 1, 0]) (fcode Tryd.f95 [1, 1, 1, 0, 1, 1, 1]) .ready none), ([10], .dfr), ([6, 8], .row [.fn (.func 99) [.ptr [0, 8] 0, .ptr [3, 8] 0]] false), ([3, 8], .row (flat (encK .u8) clsL) false), ([0, 8], .row [.tv (.str s)] false), ([6], .row [.sl [0, 1, 12] 4 0 out.length] false), ([2], .row [.i 0] false), ([1], .row [.i 0] false), ([0], .row [.tv .nils] false)]) (by kernel_rfl) (by simp only [hc67_8, cond_true, cond_false]; try rfl)) (by kernel_rfl)
          exact gh_merge [0, 1, 2, 4, 5, 6] [[10, 1, 12], [0, 1, 12], [11], [10], [6, 8], [3, 8], [0, 8], [6], [2], [1], [0]] (Eq.trans (b := [(1000000, .any), (0, .yl [11]), (1, .ptr [0, 8] 0), (2, .ptr [6, 8] 0), (4, .i (bif (decide ((atF s i) = (4 : Int))) then (runI (dgC s) s i) else (bif (bif (decide ((atF s i) = (6 : Int))) then (decide ((atF s i) = (6 : Int))) else (bif (decide ((atF s i) = (7 : Int))) then (decide ((atF s i) = (7 : Int))) else (decide ((atF s i) = (8 : Int))))) then (bif (((!decide ((atF s i) = (6 : Int))) && (decide (wr (i + 1) < ((s.size : Nat) : Int)))) && (decide (sbyte s (wr (i + 1)) = (61 : Int)))) then wr ((wr (i + 1)) + 1) else wr (i + 1)) else i))), (5, .i i), (6, .ptr [10, 1, 12] 0)]) (by kernel_rfl) (by simp only [hc40_8, cond_true, cond_false]; try rfl)) (Eq.trans (b := [([10, 1, 12], .row [.i (bif (decide ((atF s i) = (4 : Int))) then 2 else (bif (bif (decide ((atF s i) = (6 : Int))) then (decide ((atF s i) = (6 : Int))) else (bif (decide ((atF s i) = (7 : Int))) then (decide ((atF s i) = (7 : Int))) else (decide ((atF s i) = (8 : Int))))) then 3 else 0)), .tv (.str ⟨#[]⟩), .i (bif (decide ((atF s i) = (4 : Int))) then (bif (((decide ((7 : Int) < wr ((runI (dgC s) s i) - i))) || (decide ((atF s (runI (dgC s) s i)) = (3 : Int)))) || (decide ((atF s (runI (dgC s) s i)) = (5 : Int)))) then 0 else (atoiV (s.extract i.toNat (runI (dgC s) s i).toNat))) else 0), .i i, .i (bif (decide ((atF s i) = (4 : Int))) then (bif (((decide ((7 : Int) < wr ((runI (dgC s) s i) - i))) || (decide ((atF s (runI (dgC s) s i)) = (3 : Int)))) || (decide ((atF s (runI (dgC s) s i)) = (5 : Int)))) then 4 else 0) else (bif (bif (decide ((atF s i) = (6 : Int))) then (decide ((atF s i) = (6 : Int))) else (bif (decide ((atF s i) = (7 : Int))) then (decide ((atF s i) = (7 : Int))) else (decide ((atF s i) = (8 : Int))))) then (bif (((!decide ((atF s i) = (6 : Int))) && (decide (wr (i + 1) < ((s.size : Nat) : Int)))) && (decide (sbyte s (wr (i + 1)) = (61 : Int)))) then 0 else (bif (decide ((atF s i) = (8 : Int))) then 3 else 0)) else 3))] false), ([0, 1, 12], .row (flat celT out) false), ([11], .loop [(1000000, .any), (2, .ptr [0] 0), (3, .ptr [1] 0), (4, .ptr [2] 0), (5, .ptr [6] 0), (11, .fn (.func 100) [.ptr [0, 8] 0, .ptr [6, 8] 0])] 35 [12] (fcode Tryd.f95 [1, 1, 1, 0, 1, 1, 0]) (fcode Tryd.f95 [1, 1, 1, 0, 1, 1, 1]) .ready none), ([10], .dfr), ([6, 8], .row [.fn (.func 99) [.ptr [0, 8] 0, .ptr [3, 8] 0]] false), ([3, 8], .row (flat (encK .u8) clsL) false), ([0, 8], .row [.tv (.str s)] false), ([6], .row [.sl [0, 1, 12] 4 0 out.length] false), ([2], .row [.i 0] false), ([1], .row [.i 0] false), ([0], .row [.tv .nils] false)]) (by kernel_rfl) (by simp only [hc40_8, cond_true, cond_false]; try rfl)) (by kernel_rfl)
        change AT _ _ _ _
        have hJ := lxJ_ok hx0 q13_8 q9
        change AT _ _ _ ⟨[(1000000, .any), (0, .yl [11]), (1, .ptr [0, 8] 0), (2, .ptr [6, 8] 0), (4, .i (lxJ s i)), (5, .i i), (6, .ptr [10, 1, 12] 0)], (b95_36 s i out), [1, 12], 57⟩
        refine at_B [0, 1, 2, 4, 6] [] [(0 ≤ i ∧ i ≤ (lxJ s i) ∧ (lxJ s i) ≤ ((s.size : Nat) : Int))] [(1000000, .any), (0, .yl [11]), (1, .ptr [0, 8] 0), (2, .ptr [6, 8] 0), (4, .i (lxJ s i)), (6, .ptr [10, 1, 12] 0)] (b95_25 s i out) 64 (by kernel_rfl) ?_ ?_
        ·exact ⟨by (try simp only [lns] at *); omega, trivial⟩
        cases hs_81 : ((!decide ((lxE s i) = (0 : Int))))
        ·have qhs_81 := hs_81
         (try simp only [brs] at qhs_81)
         cases hs_82 : ((decide (((out.length : Nat) : Int) = (5000 : Int))))
         ·have qhs_82 := hs_82
          (try simp only [brs] at qhs_82)
          refine at_B [0, 1, 2, 4, 147] [.std, .std, .retY (.b true) (b95_30 out s i)] [YldOK Tryd.prog [11] [.agg [.i (lxK s i), .tv (.str (s.extract i.toNat (lxJ s i).toNat)), .i (lxN s i), .i i, .i (lxE s i)]] (b95_25 s i out) [66, 1, 12] (fun v1 H1 => v1 = (.b true) ∧ H1 = (b95_30 out s i))] [(1000000, .any), (0, .yl [11]), (1, .ptr [0, 8] 0), (2, .ptr [6, 8] 0), (4, .i (lxJ s i)), (147, .b (!decide ((lxE s i) = (0 : Int))))] (b95_30 out s i) 73 (by kernel_rfl) ?_ ?_
          ·refine ⟨?_, trivial⟩
           ·refine yld_in [(1000000, .any), (2, .ptr [0] 0), (3, .ptr [1] 0), (4, .ptr [2] 0), (5, .ptr [6] 0), (11, .fn (.func 100) [.ptr [0, 8] 0, .ptr [6, 8] 0])] 35 [12] (fcode Tryd.f95 [1, 1, 1, 0, 1, 1, 0]) (fcode Tryd.f95 [1, 1, 1, 0, 1, 1, 1]) none (by kernel_rfl) (by kernel_rfl) (fun lp => ?_)
            change AT _ (fcode Tryd.f95 [1, 1, 1, 0, 1, 1, 0]) _ ⟨[(1000000, .any), (12, .agg [.i (lxK s i), .tv (.str (s.extract i.toNat (lxJ s i).toNat)), .i (lxN s i), .i i, .i (lxE s i)]), (1000000, .any), (2, .ptr [0] 0), (3, .ptr [1] 0), (4, .ptr [2] 0), (5, .ptr [6] 0), (11, .fn (.func 100) [.ptr [0, 8] 0, .ptr [6, 8] 0])], (b95_25 s i out), [66, 1, 12], 0⟩
            refine at_Bl [2, 3, 4, 5, 6] [] [] [(1000000, .any), (2, .ptr [0] 0), (3, .ptr [1] 0), (4, .ptr [2] 0), (5, .ptr [6] 0), (6, .ptr [0, 66, 1, 12] 0)] (b95_29 s i out) 2 (by kernel_rfl) ?_ ?_
            ·exact trivial
            refine asg_end [(1000000, .any), (2, .ptr [0] 0), (3, .ptr [1] 0), (4, .ptr [2] 0), (5, .ptr [6] 0), (11, .fn (.func 100) [.ptr [0, 8] 0, .ptr [6, 8] 0])] 35 [12] (fcode Tryd.f95 [1, 1, 1, 0, 1, 1, 0]) none (by kernel_rfl) (H1 := (b95_24 s i out)) (by kernel_rfl) ?_
            refine at_block ?_
            refine at_seq ?_
            refine at_block ?_
            refine at_B [2, 3, 4, 5, 6, 13] [] [] [(1000000, .any), (2, .ptr [0] 0), (3, .ptr [1] 0), (4, .ptr [2] 0), (5, .ptr [6] 0), (6, .ptr [0, 66, 1, 12] 0), (13, .b (!decide ((lxE s i) = (0 : Int))))] (b95_24 s i out) 6 (by kernel_rfl) ?_ ?_
            ·exact trivial
            refine at_cond (b := (!decide ((lxE s i) = (0 : Int)))) rfl rfl (fun h => ?_) (fun h => ?_)
            ·exact absurd (h.symm.trans hs_81) (by decide)
            clear h
            refine at_B [2, 3, 4, 5, 6, 22] [] [] [(1000000, .any), (2, .ptr [0] 0), (3, .ptr [1] 0), (4, .ptr [2] 0), (5, .ptr [6] 0), (6, .ptr [0, 66, 1, 12] 0), (22, .b (decide (((out.length : Nat) : Int) = (5000 : Int))))] (b95_24 s i out) 10 (by kernel_rfl) ?_ ?_
            ·exact trivial
            refine at_cond (b := (decide (((out.length : Nat) : Int) = (5000 : Int)))) rfl rfl (fun h => ?_) (fun h => ?_)
            ·exact absurd (h.symm.trans hs_82) (by decide)
            clear h
            refine at_skip ?_
            change AT _ _ _ _
            refine at_Bl [] [.std, .std, .std, .eq (.tv (.sli 4 (([(Tk.mk (lxK s i) (s.extract i.toNat (lxJ s i).toNat) (lxN s i) i)] : List _).map celT))), .eff (.sl [14, 66, 1, 12] 4 0 (out ++ [(Tk.mk (lxK s i) (s.extract i.toNat (lxJ s i).toNat) (lxN s i) i)]).length) (.row (flat celT (out ++ [(Tk.mk (lxK s i) (s.extract i.toNat (lxJ s i).toNat) (lxN s i) i)])) false)] [(.tv (.sli 4 [[.int .i64 (lxK s i), .str (s.extract i.toNat (lxJ s i).toNat), .int .i64 (lxN s i), .int .i64 i]]) : AV) = .tv (.sli 4 (([(Tk.mk (lxK s i) (s.extract i.toNat (lxJ s i).toNat) (lxN s i) i)] : List _).map celT)), (4 = 4 ∧ 0 = 0 ∧ (flat celT out).length = out.length * 4 ∧ out.length + 1 ≤ 9223372036854775807 ∧ (out.length + 1) * 40 ≤ 140737488355328), (.sl [14, 66, 1, 12] 4 0 (out.length + 1) : AV) = .sl [14, 66, 1, 12] 4 0 (out ++ [(Tk.mk (lxK s i) (s.extract i.toNat (lxJ s i).toNat) (lxN s i) i)]).length, (.row ((flat celT out) ++ (List.map AV.tv (List.flatten (([(Tk.mk (lxK s i) (s.extract i.toNat (lxJ s i).toNat) (lxN s i) i)] : List _).map celT)))) false : AO) = .row (flat celT (out ++ [(Tk.mk (lxK s i) (s.extract i.toNat (lxJ s i).toNat) (lxN s i) i)])) false] [(1000000, .any)] (b95_42 out s i) 16 (by kernel_rfl) ?_ ?_
            ·exact ⟨rfl, ⟨rfl, rfl, flat_len (sz := 4) (fun _ => rfl) _, by (try simp only [brs, lns] at *); omega, by (try simp only [brs, lns] at *); omega⟩, by simp, congrArg (AO.row · false) (flat_app (rfl)), trivial⟩
            exact round_end (q := [66, 1, 12]) [[14, 66, 1, 12], [10, 1, 12], [11], [10], [6, 8], [3, 8], [0, 8], [6], [2], [1], [0]] [(1000000, .any), (2, .ptr [0] 0), (3, .ptr [1] 0), (4, .ptr [2] 0), (5, .ptr [6] 0), (11, .fn (.func 100) [.ptr [0, 8] 0, .ptr [6, 8] 0])] 35 [12] (fcode Tryd.f95 [1, 1, 1, 0, 1, 1, 0]) (fcode Tryd.f95 [1, 1, 1, 0, 1, 1, 1]) .busy none (by kernel_rfl) rfl (by kernel_rfl)
          refine at_cond (b := (!decide ((lxE s i) = (0 : Int)))) rfl rfl (fun h => ?_) (fun h => ?_)
          ·exact absurd (h.symm.trans hs_81) (by decide)
          clear h
          refine at_skip ?_
          refine ⟨rfl, ((lxJ s i), (out ++ [(Tk.mk (lxK s i) (s.extract i.toNat (lxJ s i).toNat) (lxN s i) i)])), ?_, ?_, ?_⟩
          ·(try dsimp only); have hk := (keep_3 hI q9 q13_8 hc22_8 hc26_8 hs_81 hs_82).1; have hk2 := (keep_3 hI q9 q13_8 hc22_8 hc26_8 hs_81 hs_82).2.1; have hg := lxJ_lt hx0 q13_8 q9 hs_81; omega
          ·(try dsimp only); exact keep_3 hI q9 q13_8 hc22_8 hc26_8 hs_81 hs_82
          ·exact RnOK.perm (H1 := (b95_35 out s i)) [[10, 1, 12], [0, 1, 12], [11], [10], [6, 8], [3, 8], [0, 8], [6], [2], [1], [0]] (by kernel_rfl) (rn_ok [([14, 66, 1, 12], [0, 1, 12]), ([11], [11]), ([10], [10]), ([6, 8], [6, 8]), ([3, 8], [3, 8]), ([0, 8], [0, 8]), ([6], [6]), ([2], [2]), ([1], [1]), ([0], [0])] [[14, 66, 1, 12], [3, 8]] [0, 1, 2, 4] (⟨clO_flat _ _ _, clO_flat _ _ _, trivial⟩) (by kernel_rfl))
         ·have qhs_82 := hs_82
          (try simp only [brs] at qhs_82)
          refine at_B [0, 1, 2, 4, 147] [.std, .std, .retY (.b false) (b95_31 s i out)] [YldOK Tryd.prog [11] [.agg [.i (lxK s i), .tv (.str (s.extract i.toNat (lxJ s i).toNat)), .i (lxN s i), .i i, .i (lxE s i)]] (b95_25 s i out) [66, 1, 12] (fun v1 H1 => v1 = (.b false) ∧ H1 = (b95_31 s i out))] [(1000000, .any), (0, .yl [11]), (1, .ptr [0, 8] 0), (2, .ptr [6, 8] 0), (4, .i (lxJ s i)), (147, .b true)] (b95_31 s i out) 73 (by kernel_rfl) ?_ ?_
          ·refine ⟨?_, trivial⟩
           ·refine yld_in [(1000000, .any), (2, .ptr [0] 0), (3, .ptr [1] 0), (4, .ptr [2] 0), (5, .ptr [6] 0), (11, .fn (.func 100) [.ptr [0, 8] 0, .ptr [6, 8] 0])] 35 [12] (fcode Tryd.f95 [1, 1, 1, 0, 1, 1, 0]) (fcode Tryd.f95 [1, 1, 1, 0, 1, 1, 1]) none (by kernel_rfl) (by kernel_rfl) (fun lp => ?_)
            change AT _ (fcode Tryd.f95 [1, 1, 1, 0, 1, 1, 0]) _ ⟨[(1000000, .any), (12, .agg [.i (lxK s i), .tv (.str (s.extract i.toNat (lxJ s i).toNat)), .i (lxN s i), .i i, .i (lxE s i)]), (1000000, .any), (2, .ptr [0] 0), (3, .ptr [1] 0), (4, .ptr [2] 0), (5, .ptr [6] 0), (11, .fn (.func 100) [.ptr [0, 8] 0, .ptr [6, 8] 0])], (b95_25 s i out), [66, 1, 12], 0⟩
            refine at_Bl [2, 3, 4, 5, 6] [] [] [(1000000, .any), (2, .ptr [0] 0), (3, .ptr [1] 0), (4, .ptr [2] 0), (5, .ptr [6] 0), (6, .ptr [0, 66, 1, 12] 0)] (b95_29 s i out) 2 (by kernel_rfl) ?_ ?_
            ·exact trivial
            refine asg_end [(1000000, .any), (2, .ptr [0] 0), (3, .ptr [1] 0), (4, .ptr [2] 0), (5, .ptr [6] 0), (11, .fn (.func 100) [.ptr [0, 8] 0, .ptr [6, 8] 0])] 35 [12] (fcode Tryd.f95 [1, 1, 1, 0, 1, 1, 0]) none (by kernel_rfl) (H1 := (b95_24 s i out)) (by kernel_rfl) ?_
            refine at_block ?_
            refine at_seq ?_
            refine at_block ?_
            refine at_B [2, 3, 4, 5, 6, 13] [] [] [(1000000, .any), (2, .ptr [0] 0), (3, .ptr [1] 0), (4, .ptr [2] 0), (5, .ptr [6] 0), (6, .ptr [0, 66, 1, 12] 0), (13, .b (!decide ((lxE s i) = (0 : Int))))] (b95_24 s i out) 6 (by kernel_rfl) ?_ ?_
            ·exact trivial
            refine at_cond (b := (!decide ((lxE s i) = (0 : Int)))) rfl rfl (fun h => ?_) (fun h => ?_)
            ·exact absurd (h.symm.trans hs_81) (by decide)
            clear h
            refine at_B [2, 3, 4, 5, 6, 22] [] [] [(1000000, .any), (2, .ptr [0] 0), (3, .ptr [1] 0), (4, .ptr [2] 0), (5, .ptr [6] 0), (6, .ptr [0, 66, 1, 12] 0), (22, .b (decide (((out.length : Nat) : Int) = (5000 : Int))))] (b95_24 s i out) 10 (by kernel_rfl) ?_ ?_
            ·exact trivial
            refine at_cond (b := (decide (((out.length : Nat) : Int) = (5000 : Int)))) rfl rfl (fun h => ?_) (fun h => ?_)
            rotate_left
            ·exact absurd (h.symm.trans hs_82) (by decide)
            clear h
            refine at_D [none, none, some [[0, 66, 1, 12]], some [[0]], some [[1]], some [[2]]] [0, 1, 3, 0, 8, 31] [2, 3, 4] [] [] [(1000000, .any), (2, .ptr [0] 0), (3, .ptr [1] 0), (4, .ptr [2] 0)] (b95_43 s i out) 16 (by kernel_rfl) ?_ ?_
            ·exact trivial
            refine at_ret ?_
            exact round_ret (q := [66, 1, 12]) [[10, 1, 12], [0, 1, 12], [11], [10], [6, 8], [3, 8], [0, 8], [6], [2], [1], [0]] [(1000000, .any), (2, .ptr [0] 0), (3, .ptr [1] 0), (4, .ptr [2] 0), (5, .ptr [6] 0), (11, .fn (.func 100) [.ptr [0, 8] 0, .ptr [6, 8] 0])] 35 [12] (fcode Tryd.f95 [1, 1, 1, 0, 1, 1, 0]) (fcode Tryd.f95 [1, 1, 1, 0, 1, 1, 1]) .busy none (by kernel_rfl) rfl (by kernel_rfl)
          refine at_cond (b := true) rfl rfl (fun h => ?_) (fun h => ?_)
          rotate_left
          ·cases h
          clear h
          refine at_ret ?_
          have heq := (hx2.symm.trans (lex_full q13_8 hc22_8 hc26_8 hs_81 hs_82))
          exact absurd (of_decide_eq_true hs1) (by rw [heq]; exact fun h => absurd (show (2 : Int) = 0 from h) (by decide))
        ·have qhs_81 := hs_81
         (try simp only [brs] at qhs_81)
         refine at_B [0, 1, 2, 4, 147] [.std, .std, .retY (.b false) (b95_32 s i out)] [YldOK Tryd.prog [11] [.agg [.i (lxK s i), .tv (.str (s.extract i.toNat (lxJ s i).toNat)), .i (lxN s i), .i i, .i (lxE s i)]] (b95_25 s i out) [66, 1, 12] (fun v1 H1 => v1 = (.b false) ∧ H1 = (b95_32 s i out))] [(1000000, .any), (0, .yl [11]), (1, .ptr [0, 8] 0), (2, .ptr [6, 8] 0), (4, .i (lxJ s i)), (147, .b true)] (b95_32 s i out) 73 (by kernel_rfl) ?_ ?_
         ·refine ⟨?_, trivial⟩
          ·refine yld_in [(1000000, .any), (2, .ptr [0] 0), (3, .ptr [1] 0), (4, .ptr [2] 0), (5, .ptr [6] 0), (11, .fn (.func 100) [.ptr [0, 8] 0, .ptr [6, 8] 0])] 35 [12] (fcode Tryd.f95 [1, 1, 1, 0, 1, 1, 0]) (fcode Tryd.f95 [1, 1, 1, 0, 1, 1, 1]) none (by kernel_rfl) (by kernel_rfl) (fun lp => ?_)
           change AT _ (fcode Tryd.f95 [1, 1, 1, 0, 1, 1, 0]) _ ⟨[(1000000, .any), (12, .agg [.i (lxK s i), .tv (.str (s.extract i.toNat (lxJ s i).toNat)), .i (lxN s i), .i i, .i (lxE s i)]), (1000000, .any), (2, .ptr [0] 0), (3, .ptr [1] 0), (4, .ptr [2] 0), (5, .ptr [6] 0), (11, .fn (.func 100) [.ptr [0, 8] 0, .ptr [6, 8] 0])], (b95_25 s i out), [66, 1, 12], 0⟩
           refine at_Bl [2, 3, 4, 5, 6] [] [] [(1000000, .any), (2, .ptr [0] 0), (3, .ptr [1] 0), (4, .ptr [2] 0), (5, .ptr [6] 0), (6, .ptr [0, 66, 1, 12] 0)] (b95_29 s i out) 2 (by kernel_rfl) ?_ ?_
           ·exact trivial
           refine asg_end [(1000000, .any), (2, .ptr [0] 0), (3, .ptr [1] 0), (4, .ptr [2] 0), (5, .ptr [6] 0), (11, .fn (.func 100) [.ptr [0, 8] 0, .ptr [6, 8] 0])] 35 [12] (fcode Tryd.f95 [1, 1, 1, 0, 1, 1, 0]) none (by kernel_rfl) (H1 := (b95_24 s i out)) (by kernel_rfl) ?_
           refine at_block ?_
           refine at_seq ?_
           refine at_block ?_
           refine at_B [2, 3, 4, 5, 6, 13] [] [] [(1000000, .any), (2, .ptr [0] 0), (3, .ptr [1] 0), (4, .ptr [2] 0), (5, .ptr [6] 0), (6, .ptr [0, 66, 1, 12] 0), (13, .b (!decide ((lxE s i) = (0 : Int))))] (b95_24 s i out) 6 (by kernel_rfl) ?_ ?_
           ·exact trivial
           refine at_cond (b := (!decide ((lxE s i) = (0 : Int)))) rfl rfl (fun h => ?_) (fun h => ?_)
           rotate_left
           ·exact absurd (h.symm.trans hs_81) (by decide)
           clear h
           refine at_D [none, some [[0, 66, 1, 12]], none, none, some [[0, 66, 1, 12]], some [[0]], some [[1]], some [[2]]] [0, 1, 0, 4, 12, 0, 35, 127] [2, 3, 4] [] [] [(1000000, .any), (2, .ptr [0] 0), (3, .ptr [1] 0), (4, .ptr [2] 0)] (b95_46 s i out) 14 (by kernel_rfl) ?_ ?_
           ·exact trivial
           refine at_ret ?_
           exact round_ret (q := [66, 1, 12]) [[10, 1, 12], [0, 1, 12], [11], [10], [6, 8], [3, 8], [0, 8], [6], [2], [1], [0]] [(1000000, .any), (2, .ptr [0] 0), (3, .ptr [1] 0), (4, .ptr [2] 0), (5, .ptr [6] 0), (11, .fn (.func 100) [.ptr [0, 8] 0, .ptr [6, 8] 0])] 35 [12] (fcode Tryd.f95 [1, 1, 1, 0, 1, 1, 0]) (fcode Tryd.f95 [1, 1, 1, 0, 1, 1, 1]) .busy none (by kernel_rfl) rfl (by kernel_rfl)
         refine at_cond (b := true) rfl rfl (fun h => ?_) (fun h => ?_)
         rotate_left
         ·cases h
         clear h
         refine at_ret ?_
         have heq := (hx2.symm.trans (lex_err q13_8 hc22_8 hc26_8 hs_81))
         exact absurd (of_decide_eq_true hs1) (by rw [heq]; exact fun h => absurd (decide_eq_true (show lxE s i = 0 from h)) (by rw [Bool.not_eq_true'] at hs_81; rw [hs_81]; decide))
     ·have q13_8 := hc13_8
      (try simp only [brs] at q13_8)
      have hsub : out = (lexG s 0 []).1 := (lex_out hI q13_8).1
      subst hsub
      refine at_keepB [0, 1, 2, 4, 13] [(1000000, .any), (0, .yl [11]), (1, .ptr [0, 8] 0), (2, .ptr [6, 8] 0), (4, .i i), (13, .b (decide (i < ((s.size : Nat) : Int))))] (by kernel_rfl) ?_
      refine at_pre (Gh.ren [0, 1, 12] 1000 [([0, 1, 12], [1000, 1, 12]), ([11], [11]), ([10], [10]), ([6, 8], [6, 8]), ([3, 8], [3, 8]), ([0, 8], [0, 8]), ([6], [6]), ([2], [2]), ([1], [1]), ([0], [0])] [[0, 1, 12], [3, 8]] (by kernel_rfl) (⟨clO_flat _ _ _, clO_flat _ _ _, trivial⟩) (H' := (b95_47 s)) (by kernel_rfl) (T' := [(1000000, .any), (0, .yl [11]), (1, .ptr [0, 8] 0), (2, .ptr [6, 8] 0), (4, .i i), (13, .b (decide (i < ((s.size : Nat) : Int))))]) (by kernel_rfl) (by kernel_rfl)) ?_
      refine at_exit ?_
      exact fin_inP (.inl rfl) [[11], [10], [1000, 1, 12], [6, 8], [3, 8], [0, 8], [6], [2], [1], [0]] (.tup []) (b95_47 s) (by kernel_rfl) rfl (by kernel_rfl)
   change AT _ _ _ _
   refine at_B [2, 3, 4] [] [] [(1000000, .ds [.ptr [10] 0]), (2, .ptr [0] 0), (3, .ptr [1] 0), (4, .ptr [2] 0)] [([10], .dfr), (b95_20 s), b95_2, b95_4, ([0, 8], .row [.tv (.str s)] false), (b95_17 s), ([2], .row [.i 0] false), ([1], .row [.i 0] false), ([0], .row [.sl [1000, 1, 12] 4 0 ((lexG s 0 []).1.length)] false)] 17 (by kernel_rfl) ?_ ?_
   ·exact trivial
   refine at_ret ?_
   refine fin0 (.inr rfl) (.tup [.sl [1000, 1, 12] 4 0 ((lexG s 0 []).1.length), .i 0, .i 0]) [([10], .gone), (b95_20 s), b95_2, b95_4, ([0, 8], .row [.tv (.str s)] false), (b95_17 s), ([2], .row [.i 0] false), ([1], .row [.i 0] false), ([0], .row [.sl [1000, 1, 12] 4 0 ((lexG s 0 []).1.length)] false)] (.tup [.tv (.sli 4 (((lexG s 0 []).1).map celT)), .i 0, .i 0]) (by kernel_rfl) (frzR_tup (frzs_cons (frz_flat2 (enc := celT) (l := (lexG s 0 []).1) (sz := 4) rfl (fun _ => rfl) (by decide) (by omega)) (frzs_cons rfl (frzs_cons rfl frzs_nil)))) ?_
   refine Le.of_eq ?_
   rw [lexF, hc9, cond_false, of_decide_eq_true hs1, ((lex_nil s _ 0 [] (Nat.le_refl _)).2 (of_decide_eq_true hs1))]
end Go.Proofs.YtphmhelkojdlaaaDoor
namespace Go.Proofs.YtphmhelkojdlaaaDoor
open Go.RowKit
set_option maxRecDepth 10000
set_option linter.unusedSimpArgs false
set_option linter.unusedVariables false
def nameC (s : ByteArray) : Bool := ((((decide ((lexF s).2.1 = (0 : Int))) && (decide ((((((lexF s).1).map celT).length : Nat) : Int) = (1 : Int)))) && (decide ((((lexF s).1).getD 0 Tk.z).kd = (1 : Int)))) && (decide ((((lexF s).1).getD 0 Tk.z).tx = s)))
theorem c88a (s : ByteArray)  : PureCall Tryd.prog 88 [.tv (.str s)] (.b (nameC s)) := by
 refine walk0 (fn := Tryd.f88) [.tmp 2] Tryd.func88 rfl (by kernel_rfl) rfl (by kernel_rfl) (by kernel_rfl) ?_
 change AT _ _ _ ⟨[(0, .tv (.str s))], [], [], 0⟩
 refine at_B [0] [] [] [(1000000, .any), (0, .tv (.str s))] [] 1 (by kernel_rfl) ?_ ?_
 ·exact trivial
 refine at_B [0, 3, 4] [.std, .ret (.tup [.tv (.sli 4 (((lexF s).1).map celT)), .i ((lexF s).2.1), .i ((lexF s).2.2)])] [PureCall Tryd.prog 95 [.tv (.str s)] (.tup [.tv (.sli 4 (((lexF s).1).map celT)), .i ((lexF s).2.1), .i ((lexF s).2.2)])] [(1000000, .any), (0, .tv (.str s)), (3, .tv (.sli 4 (((lexF s).1).map celT))), (4, .i ((lexF s).2.1))] [] 10 (by kernel_rfl) ?_ ?_
 ·exact ⟨(c95 s), trivial⟩
 refine at_B [2] [.std, .std, .std, .std, .std, .std, .std, .std, .std, .eq (.tv (.ptr (celT (((lexF s).1).getD 0 Tk.z)))), .std, .std, .std, .std, .std, .std, .eq (.tv (.ptr (celT (((lexF s).1).getD 0 Tk.z))))] [(((decide ((lexF s).2.1 = (0 : Int))) && (decide ((((((lexF s).1).map celT).length : Nat) : Int) = (1 : Int)))) = true) → (0 ≤ (0 : Int) ∧ (0 : Int) < ((((((lexF s).1).map celT) : List (List TV)).length : Nat) : Int)), (((decide ((lexF s).2.1 = (0 : Int))) && (decide ((((((lexF s).1).map celT).length : Nat) : Int) = (1 : Int)))) = true) → (.tv (.ptr (rowAt (((lexF s).1).map celT) (0 : Int))) : AV) = .tv (.ptr (celT (((lexF s).1).getD 0 Tk.z))), ((((decide ((lexF s).2.1 = (0 : Int))) && (decide ((((((lexF s).1).map celT).length : Nat) : Int) = (1 : Int)))) && (decide ((((lexF s).1).getD 0 Tk.z).kd = (1 : Int)))) = true) → (0 ≤ (0 : Int) ∧ (0 : Int) < ((((((lexF s).1).map celT) : List (List TV)).length : Nat) : Int)), ((((decide ((lexF s).2.1 = (0 : Int))) && (decide ((((((lexF s).1).map celT).length : Nat) : Int) = (1 : Int)))) && (decide ((((lexF s).1).getD 0 Tk.z).kd = (1 : Int)))) = true) → (.tv (.ptr (rowAt (((lexF s).1).map celT) (0 : Int))) : AV) = .tv (.ptr (celT (((lexF s).1).getD 0 Tk.z)))] [(1000000, .any), (2, .b ((((decide ((lexF s).2.1 = (0 : Int))) && (decide ((((((lexF s).1).map celT).length : Nat) : Int) = (1 : Int)))) && (decide ((((lexF s).1).getD 0 Tk.z).kd = (1 : Int)))) && (decide ((((lexF s).1).getD 0 Tk.z).tx = s))))] [] 33 (by kernel_rfl) ?_ ?_
 ·exact ⟨fun hg0 => by (try simp only [brs, lns] at *); omega, fun hg0 => congrArg (fun c => AV.tv (.ptr c)) (row_T ((lexF s).1) (0 : Int) (by (try simp only [brs, lns] at *); omega)), fun hg0 => by (try simp only [brs, lns] at *); omega, fun hg0 => congrArg (fun c => AV.tv (.ptr c)) (row_T ((lexF s).1) (0 : Int) (by (try simp only [brs, lns] at *); omega)), trivial⟩
 refine at_ret ?_
 refine fin0 (.inr rfl) (.b ((((decide ((lexF s).2.1 = (0 : Int))) && (decide ((((((lexF s).1).map celT).length : Nat) : Int) = (1 : Int)))) && (decide ((((lexF s).1).getD 0 Tk.z).kd = (1 : Int)))) && (decide ((((lexF s).1).getD 0 Tk.z).tx = s)))) [] (.b ((((decide ((lexF s).2.1 = (0 : Int))) && (decide ((((((lexF s).1).map celT).length : Nat) : Int) = (1 : Int)))) && (decide ((((lexF s).1).getD 0 Tk.z).kd = (1 : Int)))) && (decide ((((lexF s).1).getD 0 Tk.z).tx = s)))) (H2 := []) (by kernel_rfl) (by kernel_rfl) ?_
 refine Le.of_eq ?_
 first | rfl | (simp only [nameC, cond_true, cond_false]; done) | (simp only [nameC, cond_true, cond_false]; rfl)
end Go.Proofs.YtphmhelkojdlaaaDoor
namespace Go.Proofs.YtphmhelkojdlaaaDoor
open Go.RowKit
set_option linter.unusedSimpArgs false
set_option linter.unusedVariables false
theorem cls_facts : ∀ n : Fin 256, (clsL.getD n.val 0 = 3 ↔ letterC (n.val : Int) = true) ∧ (clsL.getD n.val 0 = 4 ↔ (48 ≤ n.val ∧ n.val ≤ 57)) ∧ (clsL.getD n.val 0 = 5 ↔ n.val = 95) := by decide +kernel
theorem atF_in {s : ByteArray} {j : Int} (h0 : 0 ≤ j) (h : j < s.size) : atF s j = clsL.getD (sbyte s j).toNat 0 := by
 have hle : ¬ (s.size : Int) ≤ j := by omega
 unfold atF
 rw [decide_eq_false hle, cond_false]
theorem at_3 {s : ByteArray} {j : Int} (h0 : 0 ≤ j) (h : j < s.size) : atF s j = 3 ↔ letterC (sbyte s j) = true := by
 have hb := sbyte_lt s j
 have := (cls_facts ⟨(sbyte s j).toNat, by omega⟩).1
 simp only at this
 rw [atF_in h0 h, this]
 have e : (((sbyte s j).toNat : Nat) : Int) = sbyte s j := by omega
 rw [e]
theorem at_4 {s : ByteArray} {j : Int} (h0 : 0 ≤ j) (h : j < s.size) : atF s j = 4 ↔ 48 ≤ sbyte s j ∧ sbyte s j ≤ 57 := by
 have hb := sbyte_lt s j
 have := (cls_facts ⟨(sbyte s j).toNat, by omega⟩).2.1
 simp only at this
 rw [atF_in h0 h, this]
 omega
theorem at_5 {s : ByteArray} {j : Int} (h0 : 0 ≤ j) (h : j < s.size) : atF s j = 5 ↔ sbyte s j = 95 := by
 have hb := sbyte_lt s j
 have := (cls_facts ⟨(sbyte s j).toNat, by omega⟩).2.2
 simp only at this
 rw [atF_in h0 h, this]
 omega
theorem badN_iff {s : ByteArray} {i : Nat} (h : i < s.size) : badN s i = false ↔ (nmC s (i : Int) = true ∧ (i = 0 → atF s (i : Int) = 3)) := by
 have h3 := at_3 (s := s) (j := (i : Int)) (by omega) (by omega)
 have h4 := at_4 (s := s) (j := (i : Int)) (by omega) (by omega)
 have h5 := at_5 (s := s) (j := (i : Int)) (by omega) (by omega)
 unfold badN nmC
 by_cases hl : letterC (sbyte s (i : Int)) = true
 ·simp [hl, h3]
 ·have hl' : letterC (sbyte s (i : Int)) = false := by simpa using hl
  have n3 : ¬ atF s (i : Int) = 3 := fun e => hl (h3.1 e)
  simp only [hl', n3, decide_false, Bool.not_false, Bool.true_and, Bool.or_eq_false_iff, decide_eq_false_iff_not, Bool.and_eq_false_iff, Bool.not_eq_false', decide_eq_true_eq, Bool.or_eq_true, Bool.false_or, h4, h5]
  by_cases e : i = 0
  ·subst e
   simp
  ·have e' : ¬ ((i : Int) = 0) := by omega
   simp only [e, e', not_false_eq_true, true_and, false_implies, and_true]
   omega
theorem runE_full (p : Int → Bool) : ∀ (k : Nat) (i : Int), (∀ j, i ≤ j → j < i + k → p j = true) → runE p k i = i + k
 | 0, i, _ => by simp [runE]
 | k + 1, i, h => by
  rw [runE, h i (by omega) (by omega), cond_true, runE_full p k (i + 1) (fun j h1 h2 => h j (by omega) (by omega))]
  omega
theorem runI_full {p : Int → Bool} {s : ByteArray} {i : Int} (hi : i ≤ s.size) (h : ∀ j, i ≤ j → j < s.size → p j = true) : runI p s i = s.size := by
 unfold runI
 rw [runE_full p _ i (fun j h1 h2 => h j h1 (by omega))]; omega
theorem extract_all (s : ByteArray) : s.extract (0 : Int).toNat ((s.size : Int)).toNat = s := by
 apply ByteArray.ext
 rw [ByteArray.data_extract]
 simp
theorem lex_mem (s : ByteArray) : ∀ (k : Nat) (i : Int) (out : List Tk), 0 ≤ i → ((s.size : Int) - i).toNat ≤ k → (lexG s i out).2.1 = 0 → ∀ t ∈ (lexG s i out).1, t ∈ out ∨ ∃ j : Int, 0 ≤ j ∧ j < s.size ∧ t = ⟨lxK s j, s.extract j.toNat (lxJ s j).toNat, lxN s j, j⟩ ∧ lxE s j = 0 := by
 intro k
 induction k with
 | zero => intro i out h0 h; rw [lex_end (by omega)]; exact fun _ t ht => .inl ht
 | succ k ih =>
  intro i out h0 h
  rw [lexG]
  split
  ·rename_i hn
   split
   ·exact ih _ _ (by omega) (by omega)
   ·split
    ·split
     ·exact ih _ _ (by omega) (by omega)
     ·exact fun _ t ht => .inl ht
    ·split
     ·rename_i h3
      intro h4
      rw [Bool.not_eq_true', decide_eq_false_iff_not] at h3
      exact absurd h4 h3
     ·rename_i h3
      split
      ·exact fun h4 => absurd (show (2 : Int) = 0 from h4) (by decide)
      ·split
       ·intro he t ht
        rcases ih _ _ (by omega) (by omega) he t ht with hm | hm
        ·rw [List.mem_append, List.mem_singleton] at hm
         rcases hm with hm | hm
         ·exact .inl hm
         ·refine .inr ⟨i, h0, hn, hm, ?_⟩
          simpa using h3
        ·exact .inr hm
       ·exact fun _ t ht => .inl ht
  ·exact fun _ t ht => .inl ht
theorem nameC_of {s : ByteArray} (h : nameP s = true) : nameC s = true := by
 unfold nameP at h
 rw [Bool.and_eq_true, Bool.and_eq_true, List.all_eq_true, decide_eq_true_eq, decide_eq_true_eq] at h
 obtain ⟨hall, h1, h2⟩ := h
 have hb : ∀ i : Nat, i < s.size → nmC s (i : Int) = true ∧ (i = 0 → atF s (i : Int) = 3) := fun i hi => (badN_iff hi).1 (by have := hall i (List.mem_range.2 hi); simpa using this)
 have h3 : atF s 0 = 3 := (hb 0 (by omega)).2 rfl
 have hrun : runI (nmC s) s 0 = s.size := runI_full (by omega) (fun j hj1 hj2 => by
  have := (hb j.toNat (by omega)).1
  have e : ((j.toNat : Nat) : Int) = j := by omega
  rw [e] at this; exact this)
 have hE : lxE s 0 = 0 := by
  have hw : wr ((s.size : Int) - 0) = (s.size : Int) - 0 := wr_ok (by omega) (by omega)
  unfold lxE
  rw [h3, hrun, hw, decide_eq_true (by rfl), cond_true, decide_eq_false (by omega)]; rfl
 have hJ : lxJ s 0 = s.size := by
  unfold lxJ
  rw [h3, hrun]; rfl
 have hK : lxK s 0 = 1 := by
  unfold lxK
  rw [h3]; rfl
 have hstep : lexG s 0 [] = ([⟨1, s, lxN s 0, 0⟩], 0, 0) := by
  rw [lex_tok (by omega) (by rw [h3]; rfl) (by rw [h3]; rfl) (by rw [hE]; rfl) (by rfl) (by rw [hJ]; omega), hJ, hK, extract_all, lex_end (by omega)]; rfl
 have hF : lexF s = ([⟨1, s, lxN s 0, 0⟩], 0, 0) := by
  unfold lexF
  rw [decide_eq_false (by omega), cond_false, hstep]
 unfold nameC
 rw [hF]
 simp
theorem nameP_of {s : ByteArray} (h : nameC s = true) : nameP s = true := by
 unfold nameC at h
 simp only [Bool.and_eq_true, decide_eq_true_eq, List.length_map] at h
 obtain ⟨⟨⟨he, hl⟩, hk⟩, ht⟩ := h
 by_cases hs : (20000 : Int) < s.size
 ·unfold lexF at he
  rw [decide_eq_true hs, cond_true] at he
  cases he
 ·have hF : lexF s = lexG s 0 [] := by
   unfold lexF
   rw [decide_eq_false hs, cond_false]
  rw [hF] at he hl hk ht
  have hm := lex_mem s _ 0 [] (Int.le_refl _) (Nat.le_refl _) he ((lexG s 0 []).1.getD 0 Tk.z) (getD_mem (by omega))
  rcases hm with hm | ⟨j, hj0, hj1, hj2, hj3⟩
  ·simp at hm
  ·rw [hj2] at hk ht
   simp only at hk ht
   have hJ := lxJ_ok hj0 hj1 hs
   have hsz := extract_size s hj0 hJ.1 hJ.2
   rw [ht] at hsz
   have hj : j = 0 := by omega
   subst hj
   have h3 : atF s 0 = 3 := by
    unfold lxK at hk
    by_cases e3 : atF s 0 = 3
    ·exact e3
    ·exfalso
     rw [decide_eq_false e3, cond_false] at hk
     cases e4 : decide (atF s 0 = 4) with
     | true => rw [e4, cond_true] at hk; exact absurd hk (by decide)
     | false =>
      rw [e4, cond_false] at hk
      revert hk
      cases (bif decide (atF s 0 = 6) then decide (atF s 0 = 6) else bif decide (atF s 0 = 7) then decide (atF s 0 = 7) else decide (atF s 0 = 8)) <;> decide
   have hJ2 : lxJ s 0 = runI (nmC s) s 0 := by
    unfold lxJ
    rw [h3]; rfl
   have hrun : runI (nmC s) s 0 = s.size := by omega
   have hlen : ((s.size : Nat) : Int) ≤ 24 := by
    have hw : wr ((s.size : Int) - 0) = (s.size : Int) - 0 := wr_ok (by omega) (by omega)
    unfold lxE at hj3
    rw [h3, hrun, hw, decide_eq_true (by rfl), cond_true] at hj3
    by_cases e : (24 : Int) < (s.size : Int) - 0
    ·rw [decide_eq_true e, cond_true] at hj3; exact absurd hj3 (by decide)
    ·omega
   unfold nameP
   rw [Bool.and_eq_true, Bool.and_eq_true, List.all_eq_true, decide_eq_true_eq, decide_eq_true_eq]
   refine ⟨fun i hi => ?_, by omega, hlen⟩
   have hi := List.mem_range.1 hi
   rw [Bool.not_eq_true']
   refine (badN_iff hi).2 ⟨?_, fun e => by subst e; exact h3⟩
   refine run_all (nmC s) ((s.size : Int) - 0).toNat 0 (i : Int) (by omega) ?_
   show (i : Int) < runI (nmC s) s 0
   omega
theorem c88 (s : ByteArray) : PureCall Tryd.prog 88 [.tv (.str s)] (.b (nameP s)) := by
 have e : nameP s = nameC s := by
  cases h : nameC s with
  | true => exact nameP_of h
  | false =>
   cases h2 : nameP s with
   | false => rfl
   | true => rw [nameC_of h2] at h; cases h
 rw [e]; exact c88a s
end Go.Proofs.YtphmhelkojdlaaaDoor
