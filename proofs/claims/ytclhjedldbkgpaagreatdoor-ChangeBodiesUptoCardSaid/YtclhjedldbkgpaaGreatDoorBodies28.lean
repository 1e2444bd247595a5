/-
  winch/winchlaw25.ChangeBodies returns true for every two bodies, and both bodies read behind the call as they read before: the card of the second form.
  Conditions: what the two arguments read as is together of bulk at most 1048576; the listed package variables read as the program's text lays them (tied by the card).
-/
import Derived.Test.YtclhjedldbkgpaaGreatDoorBodies27
import Derived.Test.YtclhjedldbkgpaaGreatDoorTie
import Derived.Test.YtclhjedldbkgpaaGreatDoorCards
set_option linter.unusedVariables false
set_option linter.unusedSimpArgs false
set_option linter.constructorNameAsVariable false
set_option maxRecDepth 100000
namespace Go.Proofs.YtclhjedldbkgpaaGreatDoor
open Go.Am Go.Proofs
theorem changeBodies_named : Tryz.prog.funcNamed "winch/winchlaw25.ChangeBodies" = some 3 := by kernel_rfl
theorem changeBodies_inst : Tryz.f3.isInstance Tryz.prog Rows.changeBodiesUptoRow.origin Rows.changeBodiesUptoRow.targs := of_decide_eq_true (by kernel_rfl)
theorem changeBodies_wrap : Tryz.f3.isWrapper Tryz.prog Rows.changeBodiesUptoRow.wrapper Rows.changeBodiesUptoRow.mainSum := by
  unfold Func.isWrapper
  first | (rw [if_pos (by decide +kernel)]; kernel_rfl) | (rw [if_neg (by decide +kernel)]; exact ⟨rfl, rfl⟩)
theorem changeBodiesUpto_said : Rows.ChangeBodiesUptoSaid :=
  OpenClaim.holds_of_cond 3 Tryz.f3 rfl rfl rfl rfl rfl rfl rfl ⟨rfl, rfl, rfl, rfl, rfl⟩ rfl rfl rfl rfl rfl changeBodies_named Tryz.func3 jf_all changeBodies_inst changeBodies_wrap
    (fun os started H enc _ F => by rw [OpenClaim.pre_eq_preRow]; exact liftedUpto os started H enc F)
/-- No parameter wants a stand-in; the program's own looks are off. -/
theorem changeBodies_plain (f : FuncId) (fn : Func) (hf : Tryz.pinned.checked.prog.funcNamed "winch/winchlaw25.ChangeBodies" = some f) (hfn : Tryz.pinned.checked.prog.funcs[f]? = some fn) :
    true = Tryz.pinned.checked.prog.looks [] ∧ ∀ (j : Nat) t, fn.params[j]? = some t → Tryz.pinned.checked.prog.wantsStandIn t = false := by
  obtain rfl : f = 3 := Option.some.inj (changeBodies_named.symm.trans hf) |>.symm
  obtain rfl : fn = Tryz.f3 := (Option.some.inj (Tryz.func3.symm.trans hfn)).symm
  refine ⟨by kernel_rfl, fun j t ht => ?_⟩
  rw [Tryz.params3] at ht
  obtain rfl : t = 32 := by
    have := Array.mem_of_getElem? ht
    simpa using this
  exact (show Tryz.prog.wantsStandIn 32 = false by kernel_rfl)
theorem changeBodiesUpto_card : Rows.ChangeBodiesUptoCardSaid :=
  Claim7.holds_tied_plain_at .later [] _ _ _ _ changeBodiesUpto_said (fun _ h => by cases h) (by kernel_rfl) (fun _ h => by cases h) changeBodiesUpto_row_tie rfl ⟨rfl, rfl⟩ (by kernel_rfl) rfl changeBodies_plain (by kernel_rfl)
end Go.Proofs.YtclhjedldbkgpaaGreatDoor
