/- The arguments' readings. -/
import Derived.Test.YthmimpiegnnmdaaFun1
import Derived.Test.YthmimpiegnnmdaaAbs25
import Derived.Test.YthmimpiegnnmdaaRows
namespace Go.Proofs.Ythmimpiegnnmdaa
open Go.RowKit Go.ChangeShapes Go.WideShapes Go.ChangeAt
set_option linter.unusedSimpArgs false
set_option linter.unusedVariables false
section
variable {H : Type} {enc : TypeId × Value → H} {W : World}
theorem rd_9 (fuel : Nat) : Rd enc Try.prog W fuel 9 (fun s : ByteArray => [.str s]) := rd_str Try.underlying9
theorem rd_3 (fuel : Nat) : Rd enc Try.prog W fuel 3 (fun n : Int => [.int .i64 n]) := rd_int Try.underlying3
theorem rde_26 : ∀ (fuel : Nat), Rd enc Try.prog W fuel 26 encF := by
  intro fuel
  induction fuel using Nat.strongRecOn with
  | _ fuel ih =>
  cases fuel with
  | zero => exact rd_zero
  | succ fuel =>
    intro cs x h
    obtain ⟨hl, hf⟩ := rd_fields Try.underlying26 h
    have rk : Rd enc Try.prog W fuel 24 (fun l : List Fm => [.sli 5 (l.map encF)]) := by
      cases fuel with
      | zero => exact rd_zero
      | succ fuel => exact rd_slice Try.underlying24 (by kernel_rfl) encF_len (ih fuel (by omega))
    obtain ⟨a0, r0⟩ := rd_field hf 0 3 0 1 rfl (by kernel_rfl) (rd_3 fuel)
    obtain ⟨a1, r1⟩ := rd_field hf 1 9 1 1 rfl (by kernel_rfl) (rd_9 fuel)
    obtain ⟨a2, r2⟩ := rd_field hf 2 3 2 1 rfl (by kernel_rfl) (rd_3 fuel)
    obtain ⟨a3, r3⟩ := rd_field hf 3 3 3 1 rfl (by kernel_rfl) (rd_3 fuel)
    obtain ⟨a4, r4⟩ := rd_field hf 4 24 4 1 rfl (by kernel_rfl) (rk)
    refine ⟨(Fm.mk a0 a1 a2 a3 a4), ?_⟩
    rw [encF_eq]
    exact CR.app (off := 0) (n := 1) r0 rfl (CR.app (off := 1) (n := 1) r1 rfl (CR.app (off := 2) (n := 1) r2 rfl (CR.app (off := 3) (n := 1) r3 rfl (CR.app (off := 4) (n := 1) r4 rfl (CR.fin (n := 5) (hl.trans (by kernel_rfl)))))))
theorem rd_26 (fuel : Nat) : Rd enc Try.prog W fuel 26 celF := rd_ext (rde_26 fuel) (fun a => ⟨a, (encF_eq a).symm⟩)
theorem rd_24 (fuel : Nat) : Rd enc Try.prog W fuel 24 (fun l : List Fm => [.sli 5 (l.map encF)]) := by
  cases fuel with
  | zero => exact rd_zero
  | succ fuel => exact rd_slice Try.underlying24 (by kernel_rfl) encF_len (rde_26 fuel)
theorem rd_4 (fuel : Nat) : Rd enc Try.prog W fuel 4 (fun b : Bool => [.bool b]) := rd_bool Try.underlying4
theorem rd_28 (fuel : Nat) : Rd enc Try.prog W fuel 28 celR := by
  cases fuel with
  | zero => exact rd_zero
  | succ fuel =>
    intro cs x h
    obtain ⟨hl, hf⟩ := rd_fields Try.underlying28 h
    obtain ⟨a0, r0⟩ := rd_field hf 0 9 0 1 rfl (by kernel_rfl) (rd_9 fuel)
    obtain ⟨a1, r1⟩ := rd_field hf 1 9 1 1 rfl (by kernel_rfl) (rd_9 fuel)
    obtain ⟨a2, r2⟩ := rd_field hf 2 3 2 1 rfl (by kernel_rfl) (rd_3 fuel)
    obtain ⟨a3, r3⟩ := rd_field hf 3 3 3 1 rfl (by kernel_rfl) (rd_3 fuel)
    obtain ⟨a4, r4⟩ := rd_field hf 4 3 4 1 rfl (by kernel_rfl) (rd_3 fuel)
    obtain ⟨a5, r5⟩ := rd_field hf 5 26 5 5 rfl (by kernel_rfl) (rd_26 fuel)
    obtain ⟨a6, r6⟩ := rd_field hf 6 3 10 1 rfl (by kernel_rfl) (rd_3 fuel)
    obtain ⟨a7, r7⟩ := rd_field hf 7 4 11 1 rfl (by kernel_rfl) (rd_4 fuel)
    obtain ⟨a8, r8⟩ := rd_field hf 8 9 12 1 rfl (by kernel_rfl) (rd_9 fuel)
    refine ⟨(Ru.mk a0 a1 a2 a3 a4 a5 a6 a7 a8), ?_⟩
    exact CR.app (off := 0) (n := 1) r0 rfl (CR.app (off := 1) (n := 1) r1 rfl (CR.app (off := 2) (n := 1) r2 rfl (CR.app (off := 3) (n := 1) r3 rfl (CR.app (off := 4) (n := 1) r4 rfl (CR.app (off := 5) (n := 5) r5 rfl (CR.app (off := 10) (n := 1) r6 rfl (CR.app (off := 11) (n := 1) r7 rfl (CR.app (off := 12) (n := 1) r8 rfl (CR.fin (n := 13) (hl.trans (by kernel_rfl)))))))))))
theorem rd_22 (fuel : Nat) : Rd enc Try.prog W fuel 22 (fun l : List Ru => [.sli 13 (l.map celR)]) := by
  cases fuel with
  | zero => exact rd_zero
  | succ fuel => exact rd_slice Try.underlying22 (by kernel_rfl) (fun _ => rfl) (rd_28 fuel)
theorem rd_54 (fuel : Nat) : Rd enc Try.prog W fuel 54 celS := by
  cases fuel with
  | zero => exact rd_zero
  | succ fuel =>
    intro cs x h
    obtain ⟨hl, hf⟩ := rd_fields Try.underlying54 h
    obtain ⟨a0, r0⟩ := rd_field hf 0 3 0 1 rfl (by kernel_rfl) (rd_3 fuel)
    obtain ⟨a1, r1⟩ := rd_field hf 1 3 1 1 rfl (by kernel_rfl) (rd_3 fuel)
    obtain ⟨a2, r2⟩ := rd_field hf 2 26 2 5 rfl (by kernel_rfl) (rd_26 fuel)
    refine ⟨(Sn.mk a0 a1 a2), ?_⟩
    exact CR.app (off := 0) (n := 1) r0 rfl (CR.app (off := 1) (n := 1) r1 rfl (CR.app (off := 2) (n := 5) r2 rfl (CR.fin (n := 7) (hl.trans (by kernel_rfl)))))
theorem rd_23 (fuel : Nat) : Rd enc Try.prog W fuel 23 (fun l : List Sn => [.sli 7 (l.map celS)]) := by
  cases fuel with
  | zero => exact rd_zero
  | succ fuel => exact rd_slice Try.underlying23 (by kernel_rfl) (fun _ => rfl) (rd_54 fuel)
theorem rd_5 (fuel : Nat) : Rd enc Try.prog W fuel 5 (fun n : Int => [.int .u8 n]) := rd_int Try.underlying5
end
theorem own : ownKnob Try.prog.godebug = none := by kernel_rfl
theorem laidOut : laidOutB Try.prog = true := by kernel_rfl
end Go.Proofs.Ythmimpiegnnmdaa
