/- RedoParts: the bytes of two lists, one after the other, are read as both lists, for at most 3,000 parts each: the row, and its tied card. -/
import Derived.Test.YtcifkahbdimkbaaGreatDoorM21
import Derived.Test.YtcifkahbdimkbaaGreatDoorTie
import Derived.Test.YtcifkahbdimkbaaGreatDoorCards
import Derived.SevenTiedAt
set_option linter.unusedSimpArgs false
set_option linter.unusedVariables false
set_option maxRecDepth 100000
namespace Go.Proofs.YtcifkahbdimkbaaGreatDoor
open Go Go.Vm Go.Vm.Redo Go.Proofs Go.RowKit Go.ChangeShapes

set_option maxHeartbeats 1000000 in
theorem redoParts_lifted (os : Os) (started : os.Started) (H : Type) (enc : TypeId × Value → H) :
    ReturnsInHanded {} Tryz.checked os 9 .any (fun w args => (Rows.redoPartsSpec.pre enc Tryz.prog Tryz.f9 Rows.redoPartsRow.domain false w args ∧ laidMetH Tryz.prog laidR w) ∧ sizedMet enc Tryz.prog Tryz.f9 (OpenSpec.ofChange Rows.redoPartsSpec) false w args)
      (Rows.redoPartsSpec.post enc Tryz.prog Tryz.f9 false true false false) := by
  refine returns_and_shaped (C := Tryz.checked) (X := fun w _ => laidMetH Tryz.prog laidR w) (fun _ _ _ hh h => h.of_heap hh) own started (by kernel_rfl) Tryz.func9
    (ChangeSpec.witness_shaped (enc := enc) (C := Tryz.checked) (os := os) (X := fun w _ => laidMetH Tryz.prog laidR w) false (laidW os) #[.slice none 0 0, .slice none 0 0] 8 (World.laidAll_os _ _ _)
      (laidW_shaped os) (by kernel_rfl) (by kernel_rfl) (by kernel_rfl) (laidW_met os _)) ?_
  intro W base args ds gs before hval hW hc hsz hL hS _
  exact law_contract (A := ann) (M := MM1) (tb := 4) (Ts := Ts) laidOut follows okTs (by rw [Tryz.params9]; exact fun t ht => List.all_eq_true.1 (show ([28, 28].all fun t => Ts.contains t && Tryz.prog.readableRec t && decide (t < Tryz.prog.types.size)) = true by kernel_rfl) t ht |> ok3) (by kernel_rfl) Tryz.underlying4 rfl
    (fun ds => by
      rcases ds with _ | ⟨d1, _ | ⟨d2, _ | ⟨d3, r⟩⟩⟩
      all_goals first
        | exact .inl rfl
        | (refine .inr ?_; rw [Tryz.params9]; simp)) (mach_ok1 (laid_of hL hS)) (globs_of hL) (by rw [Tryz.params9]; exact laws_parts) hval hW hsz
theorem redoParts_holds : Rows.RedoPartsSaid :=
  OpenClaim.holds_of_wide 9 Tryz.f9 rfl rfl rfl rfl rfl rfl rfl ⟨rfl, rfl, rfl, rfl, rfl⟩ rfl rfl rfl rfl rfl (by kernel_rfl) Tryz.func9 (by kernel_rfl)
    (of_decide_eq_true (by kernel_rfl)) (by unfold Func.isWrapper; first | (rw [if_pos (by decide +kernel)]; kernel_rfl) | (rw [if_neg (by decide +kernel)]; exact ⟨rfl, rfl⟩))
    (fun os started H enc _ => redoParts_lifted os started H enc)
theorem redoParts_card : Rows.RedoPartsCardSaid :=
  Claim7.holds_tied_plain_at .later [] [.data, .data, .data, .data, .listed, .data, .data, .pinned] true (true, "6f147c071caeeedcc5f197dac0be4fc8be5da4fb5854b4a910e4f16a75271429") false redoParts_holds (fun _ h => by cases h) (by kernel_rfl) (fun _ h => by cases h) redoParts_row_tie rfl ⟨rfl, rfl⟩ (by kernel_rfl) rfl
    (fun f fn hf hfn => by
      obtain rfl : f = 9 := Option.some.inj ((show Tryz.prog.funcNamed "justiciar/justiciarlaw20.RedoParts" = some 9 by kernel_rfl).symm.trans hf) |>.symm
      obtain rfl : fn = Tryz.f9 := (Option.some.inj (Tryz.func9.symm.trans hfn)).symm
      exact ⟨by kernel_rfl, fun j t ht => by
        rw [Tryz.params9] at ht
        have hm : t ∈ [28, 28] := by simpa using Array.mem_of_getElem? ht
        have hall : ([28, 28].all fun u => !Tryz.prog.wantsStandIn u) = true := by kernel_rfl
        exact (show Tryz.prog.wantsStandIn t = false by simpa using List.all_eq_true.1 hall t hm)⟩)
    (by kernel_rfl)
#print axioms redoParts_card
end Go.Proofs.YtcifkahbdimkbaaGreatDoor
