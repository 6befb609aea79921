/-
  The statement WorksNone, of what the small machine says of its function.
  Conditions: none beyond the row's own.
-/
import Derived.Test.YtdbjloigfkckfaaGreatDoorShut
import Derived.Test.YtdbjloigfkckfaaGreatDoorSv
import Derived.Test.YtdbjloigfkckfaaGreatDoorRows
import Derived.Test.YtdbjloigfkckfaaGreatDoorTie
import Derived.Test.YtdbjloigfkckfaaGreatDoorCards
import Derived.WalkKit
import Derived.ProofKit
import Derived.OpenShut
import Derived.ShutString
import Derived.ChangeOld
import Derived.Below
import Derived.SizedLaws
import Derived.LaidMore
import Derived.Lay
import Derived.SevenTiedAt
import Derived.Stop.Joined
import Derived.Handed
namespace Go.Proofs.YtdbjloigfkckfaaGreatDoor
open Go.ChangeShapes Go.WideShapes Go.ChangeAt Go.RowKit Go.Deep Vm
set_option linter.unusedVariables false
set_option maxRecDepth 100000 in
set_option maxHeartbeats 4000000 in
theorem worksNone_lifted (hfn : FnT Tryz.prog 4 [] [] fun r o => r = .ret (.bool true) ∧ o = []) (os : Os) (started : os.Started) (H : Type) (enc : TypeId × Value → H) :
    ReturnsInHanded {} Tryz.checked os 4 .any (fun w args => (Rows.worksNoneSpec.pre enc Tryz.prog Tryz.f4 Rows.worksNoneRow.domain false w args ∧ laidMetH Tryz.prog Rows.worksNoneRow.laid w) ∧ sizedMet enc Tryz.prog Tryz.f4 (OpenSpec.ofChange Rows.worksNoneSpec) false w args) (Rows.worksNoneSpec.post enc Tryz.prog Tryz.f4 false true false false) := by
  refine returnsInHanded_of_change_and (C := Tryz.checked) (X := fun w _ => laidMetH Tryz.prog Rows.worksNoneRow.laid w) (fun _ _ _ hh h => h.of_heap hh) own started (by kernel_rfl) Tryz.func4
    (ChangeSpec.witness_shaped (enc := enc) (C := Tryz.checked) (os := os) (X := fun w _ => laidMetH Tryz.prog Rows.worksNoneRow.laid w) false (World.laidAll Tryz.prog os Rows.worksNoneRow.laid) #[] 8 (World.laidAll_os _ _ _)
      (World.shaped_of_ZipB (by kernel_rfl) (by kernel_rfl)) (by kernel_rfl) (by kernel_rfl) (by kernel_rfl)
      (by rw [MakeChecks.laidMetH_plain _ _ _ (by kernel_rfl)]; exact laidMet_laidAll _ (by kernel_rfl) (by kernel_rfl))) ?_
  intro W base args ds gs before hval0 hW _ hsz0 hL _
  have hW' := hW
  obtain ⟨p, q, hA0, hV, rfl, hfz, hnd⟩ := hW
  have hA : DataW.TrodAll enc Tryz.prog W 0 (fun _ => true) true Tryz.f4.params.toList args.toList ds p := hA0
  have hK := hA
  rw [Tryz.params4] at hA
  obtain ⟨h0, rfl, rfl⟩ := trodAll_nil hA
  obtain rfl : args = #[] := by cases args; simp_all
  obtain ⟨rfl, rfl⟩ := trodVars_none hV
  clear hA0 hval0 hsz0
  refine (FnT.calls_true (svs := []) hfn (by rfl) .nil).mono fun e W' ⟨he, bel⟩ => ?_
  subst he
  have hlt : ∀ x ∈ ([] : List MemPlace), x.block < W.heap.size := fun x hx => by cases hx
  exact ⟨_, rfl, _, _, _, [], _, [], hW', trodAll_mk1 (shut_bool Tryz.underlying4 _), all_stay laidOut bel (by rw [Tryz.params4]; intro t ht; simp at ht) hK hlt, rfl, bel.frame _, fun h => by cases h⟩

theorem worksNone_over (hfn : FnT Tryz.prog 4 [] [] fun r o => r = .ret (.bool true) ∧ o = []) : Rows.worksNoneRow.holds Tryz.pinned (OpenSpec.ofChange Rows.worksNoneSpec) :=
  OpenClaim.holds_of_wide 4 Tryz.f4 rfl rfl rfl rfl rfl rfl rfl ⟨rfl, rfl, rfl, rfl, rfl⟩ rfl rfl rfl rfl rfl (by kernel_rfl) Tryz.func4 (by kernel_rfl)
    (of_decide_eq_true (by kernel_rfl)) (by unfold Func.isWrapper; first | (rw [if_pos (by decide +kernel)]; kernel_rfl) | (rw [if_neg (by decide +kernel)]; exact ⟨rfl, rfl⟩))
    (fun os started H enc _ => worksNone_lifted hfn os started H enc)

theorem worksNone_card (hfn : FnT Tryz.prog 4 [] [] fun r o => r = .ret (.bool true) ∧ o = []) : Rows.WorksNoneCardSaid :=
  Claim7.holds_tied_plain_at .later [] [.data, .data, .data, .data, .pinned] true (true, "f1d748c06cda7ad4f855ec08891230242b336d9a9576bf27ee3f66f3c144b2cd") false (worksNone_over hfn) (fun _ h => by cases h) (by kernel_rfl) (fun _ h => by cases h) worksNone_row_tie rfl ⟨rfl, rfl⟩ (by kernel_rfl) rfl
    (fun f fn hf hfn => by
      obtain rfl : f = 4 := Option.some.inj ((show Tryz.prog.funcNamed "penstock/penstocklaw23.WorksNone" = some 4 by kernel_rfl).symm.trans hf) |>.symm
      obtain rfl : fn = Tryz.f4 := (Option.some.inj (Tryz.func4.symm.trans hfn)).symm
      exact ⟨by kernel_rfl, fun j t ht => by
        rw [Tryz.params4] at ht
        exact absurd ht (by simp)⟩)
    (by kernel_rfl)
end Go.Proofs.YtdbjloigfkckfaaGreatDoor
