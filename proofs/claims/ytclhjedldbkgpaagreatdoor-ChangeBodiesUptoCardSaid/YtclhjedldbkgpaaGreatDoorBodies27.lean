/-
  Part 27 of the proof that winch/winchlaw25.ChangeBodies returns true for every two bodies of small bulk: lemmas.
  Conditions: none beyond each theorem's own premises.
  What lies here:
  The facts of the row that the program's text decides.
-/
import Derived.Test.YtclhjedldbkgpaaGreatDoorBodies26
import Derived.JoinedOf
set_option linter.unusedVariables false
set_option linter.unusedSimpArgs false
namespace Go.Am
open Go.Proofs Go.Proofs.YtclhjedldbkgpaaGreatDoor
theorem jf1 : Rows.changeBodiesUptoRow.wf (OpenSpec.ofChange Rows.changeBodiesSpec) = true := by kernel_rfl
theorem jf2 : laidOutB Tryz.prog = true := by kernel_rfl
theorem jf3 : mapsRowed Tryz.prog = true := by kernel_rfl
theorem jf4 : Tryz.f3.params.all (Tryz.prog.readableRec ·) = true := by kernel_rfl
theorem jf5 : namedTie Tryz.prog Rows.changeBodiesUptoRow.named Rows.changeBodiesSpec.vars = true := by kernel_rfl
theorem jf6 : (Tryz.prog.stops == []) = true := by kernel_rfl
theorem jf7 : (Tryz.prog.stopKnobs == []) = true := by kernel_rfl
theorem jf15 : (Rows.changeBodiesUptoRow.maps == (Tryz.f3.params.toList ++ Rows.changeBodiesSpec.plain.varTypes Tryz.prog).any (Tryz.prog.mapsRec ·)) = true := by kernel_rfl
theorem jf16 : (Rows.changeBodiesUptoRow.ifaces == (Tryz.f3.params.toList ++ Rows.changeBodiesSpec.plain.varTypes Tryz.prog).any (Tryz.prog.ifacesRec ·)) = true := by kernel_rfl
theorem jf17 : (Rows.changeBodiesUptoRow.loops == (Tryz.f3.params.toList ++ Rows.changeBodiesSpec.plain.varTypes Tryz.prog).any (Tryz.prog.loopsFrom ·)) = true := by kernel_rfl
theorem jf18 : (Rows.changeBodiesUptoRow.wideKeys == (Tryz.f3.params.toList ++ Rows.changeBodiesSpec.plain.varTypes Tryz.prog ++ Tryz.f3.resultTypes.toList).any (Tryz.prog.wideKeysFrom ·)) = true := by kernel_rfl
theorem jf22 : (Rows.changeBodiesUptoRow.plainKeys == Tryz.prog.plainKeys) = true := by kernel_rfl
theorem jf23 : Tryz.prog.stopsHeard = true := by kernel_rfl
theorem jf24 : Tryz.prog.mayEnter = true := by kernel_rfl
theorem jf25 : (Rows.changeBodiesUptoRow.lifted == Tryz.prog.liftsFinal) = true := by kernel_rfl
theorem jf26 : (Tryz.prog.make == some Rows.changeBodiesUptoRow.make) = true := by kernel_rfl
theorem jf27 : (Rows.changeBodiesUptoRow.veiled == (Tryz.f3.params.toList ++ Rows.changeBodiesSpec.plain.varTypes Tryz.prog ++ Tryz.f3.resultTypes.toList).any (Tryz.prog.veiledRec ·)) = true := by kernel_rfl
theorem jf28 : Rows.changeBodiesUptoRow.veiledFits Tryz.prog Tryz.f3.params.toList (Tryz.f3.params.toList ++ Rows.changeBodiesSpec.plain.varTypes Tryz.prog ++ Tryz.f3.resultTypes.toList) = true := by kernel_rfl
theorem jf10 : (Rows.changeBodiesUptoRow.inPlace == Tryz.prog.inPlace 3) = true := by kernel_rfl
theorem jf11 : (Rows.changeBodiesUptoRow.unfollowed == Tryz.prog.unfollowed 3) = true := by kernel_rfl
theorem jf12 : (Rows.changeBodiesUptoRow.recurses == Tryz.prog.recurses 3) = true := by kernel_rfl
theorem jf14 : (Rows.changeBodiesUptoRow.named == Tryz.prog.varsNamed 3) = true := by kernel_rfl
theorem jfs1 : (Rows.changeBodiesUptoRow.stops == []) = true := by kernel_rfl
theorem jfs2 : (Rows.changeBodiesUptoRow.knobs == []) = true := by kernel_rfl
theorem jfm : (Rows.changeBodiesUptoRow.mapsOut == Tryz.prog.mapsAmong Tryz.f3.resultTypes.toList) = true := by kernel_rfl
theorem jfv : Rows.changeBodiesSpec.vars.all (Tryz.prog.varReadable ·) = true := by kernel_rfl
theorem jfr : Tryz.f3.resultTypes.all (fun t => Tryz.prog.readableRec t && decide (t < Tryz.prog.types.size)) = true := by kernel_rfl
theorem jfi : (Rows.changeBodiesUptoRow.ifacesOut == Tryz.f3.resultTypes.toList.any (Tryz.prog.ifacesRec ·)) = true := by kernel_rfl
theorem jfl : (Rows.changeBodiesUptoRow.loopsOut == Tryz.f3.resultTypes.toList.any (Tryz.prog.loopsFrom ·)) = true := by kernel_rfl
theorem jft : Rows.changeBodiesUptoRow.shortTexts.isNone = true := by kernel_rfl
theorem jfk : (Rows.changeBodiesUptoRow.kinds == (if Rows.changeBodiesUptoRow.domain.isEmpty then [] else Tryz.f3.params.toList.map fun t => match Tryz.prog.underlying t with | some (.int k) => some k | _ => none)) = true := by kernel_rfl
theorem jfp : (Rows.changeBodiesUptoRow.pinned == Rows.changeBodiesUptoRow.pinnedBy) = true := by kernel_rfl
theorem both {a b : Bool} (h : a = true) (k : b = true) : (a && b) = true := by rw [h, k]; rfl
set_option maxRecDepth 100000 in
theorem jf_all : joinedFacts Tryz.prog 3 Tryz.f3 Rows.changeBodiesSpec Rows.changeBodiesUptoRow = true := by
  unfold joinedFacts
  refine both ?_ jf28
  refine both ?_ jf27
  refine both ?_ (by kernel_rfl)
  refine both ?_ (by kernel_rfl)
  refine both ?_ jf26
  refine both ?_ jf25
  refine both ?_ jf24
  refine both ?_ jf23
  refine both ?_ (by kernel_rfl)
  refine both ?_ jf22
  refine both ?_ jfl
  refine both ?_ jfi
  refine both ?_ (by kernel_rfl)
  refine both ?_ jfv
  refine both ?_ jf18
  refine both ?_ jf17
  refine both ?_ jfm
  refine both ?_ jf16
  refine both ?_ jf15
  refine both ?_ jf14
  refine both ?_ jf12
  refine both ?_ jf11
  refine both ?_ jf10
  refine both ?_ jf7
  refine both ?_ (by kernel_rfl)
  refine both ?_ jf6
  refine both ?_ (by kernel_rfl)
  refine both ?_ jf5
  refine both ?_ jf4
  refine both ?_ jf3
  refine both ?_ jf2
  exact jf1
end Go.Am
