/- The statement: for every input the law answers true, and its arguments read as before. Conditions: none beyond the row's own. -/
import Derived.Test.YtgepfmamfdmclaaGreatDoorJBo
import Derived.Test.YtgepfmamfdmclaaGreatDoorJBp
import Derived.Test.YtgepfmamfdmclaaGreatDoorJBq
import Derived.Test.YtgepfmamfdmclaaGreatDoorTie
import Derived.Test.YtgepfmamfdmclaaGreatDoorCards
import Derived.SevenTiedAt
set_option linter.unusedVariables false
set_option linter.unusedSimpArgs false
set_option maxRecDepth 100000
/-
 The statement ScriptPrints, whole: the tied card.
 Conditions: none beyond the row's own.
-/
namespace Go.Proofs.YtgepfmamfdmclaaGreatDoor
open Go.ChangeShapes Go.WideShapes Go.ChangeAt Go.RowKit Go.Deep Vm
theorem scriptPrints_proved : Rows.ScriptPrintsCardSaid :=
 Claim7.holds_tied_plain_at .later [] [.data, .data, .data, .data, .sentinel, .sentinel, .pinned] true (true, "672cba328625a62c358af0b1ba533b67d1db51a8a23b938edc8a7360cf368476") true scriptPrints_over (fun _ h => by cases h) spg1 (fun _ h => by cases h) scriptPrints_row_tie rfl ⟨rfl, rfl⟩ spg2 rfl
  (fun f fn hf hfn => by
   obtain rfl : f = 5 := Option.some.inj ((show Tryz.prog.funcNamed "penstock/penstocklaw27.ScriptPrints" = some 5 by kernel_rfl).symm.trans hf) |>.symm
   obtain rfl : fn = Tryz.f5 := (Option.some.inj (Tryz.func5.symm.trans hfn)).symm
   exact ⟨spg4, fun j t ht => by
    rw [Tryz.params5] at ht
    have hm : t ∈ [34] := by simpa using Array.mem_of_getElem? ht
    have hall : ([34].all fun u => !Tryz.prog.wantsStandIn u) = true := by simp [spg3]
    exact (show Tryz.prog.wantsStandIn t = false by simpa using List.all_eq_true.1 hall t hm)⟩)
  spg5
end Go.Proofs.YtgepfmamfdmclaaGreatDoor
