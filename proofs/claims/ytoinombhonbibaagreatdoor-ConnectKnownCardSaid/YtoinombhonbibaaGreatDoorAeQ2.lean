/-
  ConnectKnown's row: what is reckoned off the program, piece by piece.
-/
import Derived.Test.YtoinombhonbibaaGreatDoorAeR0
import Derived.Test.YtoinombhonbibaaGreatDoorCards
set_option linter.unusedSimpArgs false
set_option linter.unusedVariables false
set_option linter.unusedSectionVars false
namespace Go.Proofs.YtoinombhonbibaaGreatDoor
open Go.AE Go.ChangeShapes Go.WideShapes Go.ChangeAt Go.WideMaps Go.WideElems Go.RowKit
set_option maxRecDepth 100000
theorem band {a b : Bool} (h : a = true) (g : b = true) : (a && b) = true := by rw [h, g]; rfl
theorem bandL {a b : Bool} (h : (a && b) = true) : a = true := by cases a <;> simp_all
theorem bandR {a b : Bool} (h : (a && b) = true) : b = true := by cases a <;> simp_all
theorem g0 : (Rows.connectKnownRow.wf (OpenSpec.ofChange Rows.connectKnownSpec) &&
  laidOutB Tryz.pinned.checked.prog &&
  mapsRowed Tryz.pinned.checked.prog &&
  Tryz.f5.params.all (Tryz.pinned.checked.prog.readableRec ·) &&
  namedTie Tryz.pinned.checked.prog Rows.connectKnownRow.named Rows.connectKnownSpec.vars &&
  (Rows.connectKnownRow.stops == []) &&
  (Tryz.pinned.checked.prog.stops == []) &&
  (Rows.connectKnownRow.knobs == []) &&
  (Tryz.pinned.checked.prog.stopKnobs == []) &&
  (Rows.connectKnownRow.inPlace == Tryz.pinned.checked.prog.inPlace 5) &&
  (Rows.connectKnownRow.unfollowed == Tryz.pinned.checked.prog.unfollowed 5)) = true := by kernel_rfl
theorem g1 : ((Rows.connectKnownRow.recurses == Tryz.pinned.checked.prog.recurses 5) &&
  (Rows.connectKnownRow.named == Tryz.pinned.checked.prog.varsNamed 5) &&
  (Rows.connectKnownRow.maps == (Tryz.f5.params.toList ++ Rows.connectKnownSpec.plain.varTypes Tryz.pinned.checked.prog).any (Tryz.pinned.checked.prog.mapsRec ·)) &&
  (Rows.connectKnownRow.ifaces == (Tryz.f5.params.toList ++ Rows.connectKnownSpec.plain.varTypes Tryz.pinned.checked.prog).any (Tryz.pinned.checked.prog.ifacesRec ·)) &&
  (Rows.connectKnownRow.mapsOut == Tryz.pinned.checked.prog.mapsAmong Tryz.f5.resultTypes.toList) &&
  (Rows.connectKnownRow.loops == (Tryz.f5.params.toList ++ Rows.connectKnownSpec.plain.varTypes Tryz.pinned.checked.prog).any (Tryz.pinned.checked.prog.loopsFrom ·)) &&
  (Rows.connectKnownRow.wideKeys == (Tryz.f5.params.toList ++ Rows.connectKnownSpec.plain.varTypes Tryz.pinned.checked.prog ++ Tryz.f5.resultTypes.toList).any (Tryz.pinned.checked.prog.wideKeysFrom ·)) &&
  Rows.connectKnownSpec.vars.all (Tryz.pinned.checked.prog.varReadable ·) &&
  Tryz.f5.resultTypes.all (fun t => Tryz.pinned.checked.prog.readableRec t && decide (t < Tryz.pinned.checked.prog.types.size)) &&
  (Rows.connectKnownRow.ifacesOut == Tryz.f5.resultTypes.toList.any (Tryz.pinned.checked.prog.ifacesRec ·)) &&
  (Rows.connectKnownRow.loopsOut == Tryz.f5.resultTypes.toList.any (Tryz.pinned.checked.prog.loopsFrom ·)) &&
  (Rows.connectKnownRow.plainKeys == Tryz.pinned.checked.prog.plainKeys) &&
  Rows.connectKnownRow.shortTexts.isNone) = true := by kernel_rfl
theorem g2 : (Tryz.pinned.checked.prog.stopsHeard &&
  Tryz.pinned.checked.prog.mayEnter &&
  (Rows.connectKnownRow.lifted == Tryz.pinned.checked.prog.liftsFinal) &&
  (Tryz.pinned.checked.prog.make == some Rows.connectKnownRow.make) &&
  (Rows.connectKnownRow.kinds == (if Rows.connectKnownRow.domain.isEmpty then [] else Tryz.f5.params.toList.map fun t => match Tryz.pinned.checked.prog.underlying t with | some (.int k) => some k | _ => none)) &&
  (Rows.connectKnownRow.pinned == Rows.connectKnownRow.pinnedBy) &&
  (Rows.connectKnownRow.veiled == (Tryz.f5.params.toList ++ Rows.connectKnownSpec.plain.varTypes Tryz.pinned.checked.prog ++ Tryz.f5.resultTypes.toList).any (Tryz.pinned.checked.prog.veiledRec ·)) &&
  Rows.connectKnownRow.veiledFits Tryz.pinned.checked.prog Tryz.f5.params.toList (Tryz.f5.params.toList ++ Rows.connectKnownSpec.plain.varTypes Tryz.pinned.checked.prog ++ Tryz.f5.resultTypes.toList)) = true := by kernel_rfl
theorem k_joined : joinedFacts Tryz.pinned.checked.prog 5 Tryz.f5 Rows.connectKnownSpec Rows.connectKnownRow = true := by
  unfold joinedFacts
  exact (band (band (band (band (band (band (band (band (band (band (band (band (band (band (band (band (band (band (band (band (band g0 (bandL (bandL (bandL (bandL (bandL (bandL (bandL (bandL (bandL (bandL (bandL (bandL g1))))))))))))) (bandR (bandL (bandL (bandL (bandL (bandL (bandL (bandL (bandL (bandL (bandL (bandL g1))))))))))))) (bandR (bandL (bandL (bandL (bandL (bandL (bandL (bandL (bandL (bandL (bandL g1)))))))))))) (bandR (bandL (bandL (bandL (bandL (bandL (bandL (bandL (bandL (bandL g1))))))))))) (bandR (bandL (bandL (bandL (bandL (bandL (bandL (bandL (bandL g1)))))))))) (bandR (bandL (bandL (bandL (bandL (bandL (bandL (bandL g1))))))))) (bandR (bandL (bandL (bandL (bandL (bandL (bandL g1)))))))) (bandR (bandL (bandL (bandL (bandL (bandL g1))))))) (bandR (bandL (bandL (bandL (bandL g1)))))) (bandR (bandL (bandL (bandL g1))))) (bandR (bandL (bandL g1)))) (bandR (bandL g1))) (bandR g1)) (bandL (bandL (bandL (bandL (bandL (bandL (bandL g2)))))))) (bandR (bandL (bandL (bandL (bandL (bandL (bandL g2)))))))) (bandR (bandL (bandL (bandL (bandL (bandL g2))))))) (bandR (bandL (bandL (bandL (bandL g2)))))) (bandR (bandL (bandL (bandL g2))))) (bandR (bandL (bandL g2)))) (bandR (bandL g2))) (bandR g2))
theorem k_named : Tryz.pinned.checked.prog.funcNamed Rows.connectKnownRow.func = some 5 := by kernel_rfl
theorem k_inst : Func.isInstance Tryz.pinned.checked.prog Tryz.f5 Rows.connectKnownRow.origin Rows.connectKnownRow.targs := by
  have h1 : Tryz.f5.origin = "" := rfl
  have h2 : Tryz.f5.targs = #[] := rfl
  have h3 : Rows.connectKnownRow.origin = "" := rfl
  have h4 : Rows.connectKnownRow.targs = [] := rfl
  unfold Func.isInstance
  rw [h1, h2, h3, h4]
  refine ⟨rfl, rfl, ?_⟩
  rw [if_pos rfl]
  exact ⟨rfl, by kernel_rfl⟩
theorem k_wrap : Func.isWrapper Tryz.pinned.checked.prog Tryz.f5 Rows.connectKnownRow.wrapper Rows.connectKnownRow.mainSum := by
  unfold Func.isWrapper; first | (rw [if_pos (by decide +kernel)]; kernel_rfl) | (rw [if_neg (by decide +kernel)]; exact ⟨rfl, rfl⟩)
theorem c_wf : OpenClaim.wfByText (OpenSpec.ofChange Rows.connectKnownSpec) Rows.connectKnownRow = true := by kernel_rfl
theorem c_main : Tryz.pinned.checked.prog.mainIs = some ((true, "b475e0548893ff794d2cc3fb8133c83681dec076c9d09144fbafdef5329fe405").fst, (true, "b475e0548893ff794d2cc3fb8133c83681dec076c9d09144fbafdef5329fe405").snd.toList) := by kernel_rfl
theorem c_looks : false = Tryz.pinned.checked.prog.looks [] := by kernel_rfl
theorem c_goes : false = Rows.connectKnownRow.goesBy Tryz.pinned.checked.prog := by kernel_rfl
theorem c_named : Tryz.prog.funcNamed "spinney/spinneylaw27.ConnectKnown" = some 5 := k_named
end Go.Proofs.YtoinombhonbibaaGreatDoor
