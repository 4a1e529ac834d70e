/-
  ConnectKnown: the row and the card.
-/
import Derived.Test.YtoinombhonbibaaGreatDoorAeK5
import Derived.Test.YtoinombhonbibaaGreatDoorAeQ2
import Derived.Test.YtoinombhonbibaaGreatDoorCards
set_option linter.unusedSimpArgs false
set_option linter.unusedVariables false
set_option linter.unusedSectionVars false
namespace Go.Proofs.YtoinombhonbibaaGreatDoor
open Go.AE Go.ChangeShapes Go.WideShapes Go.ChangeAt Go.WideMaps Go.WideElems Go.RowKit
set_option maxRecDepth 100000

theorem known_calls {W : World} (h : laidMetH Tryz.prog laidL W) : Calls Tryz.prog 5 #[] W fun e W' => e = .returned (.bool true) ∧ ∀ may, W.keptBut W' may := by
  have h1 : Wp tabP1 (.call 5 [] heap0 fun v H => isTB v H = true) := wpB_ok tabP1_mono tabB1_ok _ _ known_run
  rw [heap0_eq] at h1
  refine calls_of_Wp follows_mixed tabP1_ok h1 (init_rel h) (by simp [VRels]) ?_
  intro v H' β' w' u hv _ hR hu
  rw [isTB_ok hv] at hu
  simp only [VRel] at hu
  exact ⟨by rw [hu], fun may => kept_of_rel hR may⟩

theorem door_met5 (os : Os) (args : Array Value) : laidMetH Tryz.prog laidL ((World.doorLaid Tryz.prog 400 os).forCall (fun _ _ => 0) ⟨#[], args, []⟩).memory :=
  laidMetH_of_parts3 (fuel := 8) (laidMet_of_run' 81 (by kernel_rfl) (by kernel_rfl)) (by kernel_rfl) (by kernel_rfl)

theorem known_lifted (os : Os) (started : os.Started) (H : Type) (enc : TypeId × Value → H) :
    ReturnsInHanded {} Tryz.checked os 5 .any (fun w args => (Rows.connectKnownSpec.pre enc Tryz.prog Tryz.f5 [] false w args ∧ laidMetH Tryz.prog laidL w) ∧ sizedMet enc Tryz.prog Tryz.f5 (OpenSpec.ofChange Rows.connectKnownSpec) false w args)
      (Rows.connectKnownSpec.post enc Tryz.prog Tryz.f5 false true false false) := by
  refine returnsInHanded_of_change_and (C := Tryz.checked) (X := fun w _ => laidMetH Tryz.prog laidL w) (fun _ _ _ hh h => h.of_heap hh) own started (by kernel_rfl) Tryz.func5
    (ChangeSpec.witness_shaped (enc := enc) (C := Tryz.checked) (os := os) (X := fun w _ => laidMetH Tryz.prog laidL w) false (World.doorLaid Tryz.prog 400 os) #[] 8 rfl (World.shaped_of_RefB (by kernel_rfl) (by kernel_rfl)) (by kernel_rfl) (by kernel_rfl) (by kernel_rfl) (door_met5 os _)) ?_
  intro W base args ds gs before hval0 hW _ _ hL _
  have hW' := hW
  obtain ⟨p, q, hA0, hV, rfl, hfz, hnd⟩ := hW
  have hA : DataW.TrodAll enc Tryz.prog W 0 (fun _ => true) true Tryz.f5.params.toList args.toList ds p := hA0
  rw [Tryz.params5] at hA
  obtain ⟨hargs, rfl, rfl⟩ := trodAll_nil hA
  obtain ⟨rfl, rfl⟩ := trodVars_none hV
  have hargs : args = #[] := by simpa using hargs
  subst hargs
  refine (known_calls hL).mono fun e W' ⟨he, hk⟩ => ?_
  subst he
  refine ⟨_, rfl, [], [], [], [], [], [], hW', ?_, ?_, ?_, hk _, fun h => by cases h⟩
  · have hres : Tryz.f5.resultTypes = #[4] := by kernel_rfl
    show DataW.TrodAll enc Tryz.prog W' _ _ _ Tryz.f5.resultTypes.toList (Value.resultList Tryz.f5.resultTypes.size (Value.bool true)) _ []
    rw [hres]
    exact trodAll_mk1 (shut_bool Tryz.underlying4 true)
  · show DataW.TrodAll enc Tryz.prog W' _ _ _ Tryz.f5.params.toList _ _ []
    rw [Tryz.params5]
    exact trodAll_mk0
  · rfl

theorem known_holds : Rows.ConnectKnownSaid :=
  OpenClaim.holds_of_wide 5 Tryz.f5 rfl rfl rfl rfl rfl rfl rfl ⟨rfl, rfl, rfl, rfl, rfl⟩ rfl rfl rfl rfl rfl k_named Tryz.func5 k_joined k_inst k_wrap
    (fun os started H enc _ => known_lifted os started H enc)

theorem connectKnown_holds : Rows.ConnectKnownCardSaid :=
  Claim7.holds_tied_plain_at .later [] [.data, .data, .data] true (true, "b475e0548893ff794d2cc3fb8133c83681dec076c9d09144fbafdef5329fe405") false
    known_holds (fun _ h => by cases h) c_wf (fun _ h => by cases h) connectKnown_row_tie rfl ⟨rfl, rfl⟩ c_main rfl
    (fun f fn hf hfn => by
      obtain rfl : f = 5 := (Option.some.inj (c_named.symm.trans hf)).symm
      obtain rfl : fn = Tryz.f5 := (Option.some.inj (Tryz.func5.symm.trans hfn)).symm
      exact ⟨c_looks, fun j t ht => by
        rw [Tryz.params5] at ht
        simp at ht⟩)
    c_goes
#print axioms connectKnown_holds
end Go.Proofs.YtoinombhonbibaaGreatDoor
