/- RedoBroken: bytes of a record of which one is changed, other than the first two, are not the bytes of a record, for at most 3,000 parts: the row, and its tied card. -/
import Derived.Test.YtcifkahbdimkbaaGreatDoorM22
import Derived.Test.YtcifkahbdimkbaaGreatDoorTie
import Derived.Test.YtcifkahbdimkbaaGreatDoorCards
import Derived.SevenTiedAt
set_option linter.unusedSimpArgs false
set_option linter.unusedVariables false
set_option maxRecDepth 100000
namespace Go.Proofs.YtcifkahbdimkbaaGreatDoor
open Go Go.Vm Go.Vm.Redo Go.Proofs Go.RowKit Go.ChangeShapes

set_option maxHeartbeats 1000000 in
theorem redoBroken_lifted (os : Os) (started : os.Started) (H : Type) (enc : TypeId × Value → H) :
    ReturnsInHanded {} Tryz.checked os 5 .any (fun w args => (Rows.redoBrokenSpec.pre enc Tryz.prog Tryz.f5 Rows.redoBrokenRow.domain false w args ∧ laidMetH Tryz.prog laidR w) ∧ sizedMet enc Tryz.prog Tryz.f5 (OpenSpec.ofChange Rows.redoBrokenSpec) false w args)
      (Rows.redoBrokenSpec.post enc Tryz.prog Tryz.f5 false true false false) := by
  refine returns_and_shaped (C := Tryz.checked) (X := fun w _ => laidMetH Tryz.prog laidR w) (fun _ _ _ hh h => h.of_heap hh) own started (by kernel_rfl) Tryz.func5
    (ChangeSpec.witness_shaped (enc := enc) (C := Tryz.checked) (os := os) (X := fun w _ => laidMetH Tryz.prog laidR w) false (laidW os) #[.agg #[.int .i64 0, .int .i64 0, .string ⟨#[]⟩, .string ⟨#[]⟩, .int .i64 0, .slice none 0 0, .int .i64 0, .string ⟨#[]⟩, .int .i64 0], .int .i64 0, .int .u8 0] 8 (World.laidAll_os _ _ _)
      (laidW_shaped os) (by kernel_rfl) (by kernel_rfl) (by kernel_rfl) (laidW_met os _)) ?_
  intro W base args ds gs before hval hW hc hsz hL hS _
  exact law_post (tb := 4) (Ts := Ts) laidOut okTs (by rw [Tryz.params5]; exact fun t ht => List.all_eq_true.1 (show ([26, 3, 5].all fun t => Ts.contains t && Tryz.prog.readableRec t && decide (t < Tryz.prog.types.size)) = true by kernel_rfl) t ht |> ok3) (by kernel_rfl) Tryz.underlying4 rfl
    (fun ds => by
      rcases ds with _ | ⟨d1, _ | ⟨d2, _ | ⟨d3, _ | ⟨d4, r⟩⟩⟩⟩
      all_goals first
        | exact .inl rfl
        | (refine .inr ?_; rw [Tryz.params5]; simp))
    (fun xs h1 h2 => by
      rw [Tryz.params5] at h2
      obtain ⟨x, r, n, rfl, k1, h2⟩ := typedL_cons h2
      obtain ⟨y, r, n', rfl, k2, h2⟩ := typedL_cons h2
      obtain ⟨z, r, n'', rfl, k3, h2⟩ := typedL_cons h2
      obtain rfl := typedL_nil h2
      obtain ⟨a, rfl, ha⟩ := typed_rec k1
      obtain ⟨i, rfl, _⟩ := typed_int Tryz.underlying3 k2
      obtain ⟨c, rfl⟩ := typed_byte k3
      have h := broken_calls (laid_of hL hS) (globs_of hL) a ha i c h1
      rwa [Array.toArray_toList] at h) hval hW hsz
theorem redoBroken_holds : Rows.RedoBrokenSaid :=
  OpenClaim.holds_of_wide 5 Tryz.f5 rfl rfl rfl rfl rfl rfl rfl ⟨rfl, rfl, rfl, rfl, rfl⟩ rfl rfl rfl rfl rfl (by kernel_rfl) Tryz.func5 (by kernel_rfl)
    (of_decide_eq_true (by kernel_rfl)) (by unfold Func.isWrapper; first | (rw [if_pos (by decide +kernel)]; kernel_rfl) | (rw [if_neg (by decide +kernel)]; exact ⟨rfl, rfl⟩))
    (fun os started H enc _ => redoBroken_lifted os started H enc)
theorem redoBroken_card : Rows.RedoBrokenCardSaid :=
  Claim7.holds_tied_plain_at .later [] [.data, .data, .data, .data, .listed, .data, .data, .pinned] true (true, "6f147c071caeeedcc5f197dac0be4fc8be5da4fb5854b4a910e4f16a75271429") false redoBroken_holds (fun _ h => by cases h) (by kernel_rfl) (fun _ h => by cases h) redoBroken_row_tie rfl ⟨rfl, rfl⟩ (by kernel_rfl) rfl
    (fun f fn hf hfn => by
      obtain rfl : f = 5 := Option.some.inj ((show Tryz.prog.funcNamed "justiciar/justiciarlaw20.RedoBroken" = some 5 by kernel_rfl).symm.trans hf) |>.symm
      obtain rfl : fn = Tryz.f5 := (Option.some.inj (Tryz.func5.symm.trans hfn)).symm
      exact ⟨by kernel_rfl, fun j t ht => by
        rw [Tryz.params5] at ht
        have hm : t ∈ [26, 3, 5] := by simpa using Array.mem_of_getElem? ht
        have hall : ([26, 3, 5].all fun u => !Tryz.prog.wantsStandIn u) = true := by kernel_rfl
        exact (show Tryz.prog.wantsStandIn t = false by simpa using List.all_eq_true.1 hall t hm)⟩)
    (by kernel_rfl)
#print axioms redoBroken_card
end Go.Proofs.YtcifkahbdimkbaaGreatDoor
