/-
  The statement SpoolNobody: the law, a closed one, answers true.
  Conditions: none beyond the row's own.
-/
import Derived.Test.YtnlkkgpcikkpoaaGreatShut
namespace Go.Proofs.YtnlkkgpcikkpoaaGreat
open Go.ChangeShapes Go.WideShapes Go.ChangeAt Go.RowKit Go.Deep
set_option linter.unusedVariables false

theorem spoolNobody_says : Vm.says Tryz.prog 1000 60 7 = true := by kernel_rfl

set_option maxRecDepth 100000 in
set_option maxHeartbeats 4000000 in
theorem spoolNobody_lifted (os : Os) (started : os.Started) (H : Type) (enc : TypeId × Value → H) :
    ReturnsInHanded {} Tryz.checked os 7 .any (Rows.spoolNobodySpec.pre6 enc Tryz.prog Tryz.f7 Rows.spoolNobodyRow.domain false) (Rows.spoolNobodySpec.post enc Tryz.prog Tryz.f7 false true false false) := by
  refine returnsInHanded_of_change_sized (C := Tryz.checked) own started (by kernel_rfl) Tryz.func7
    (ChangeSpec.witness6 (enc := enc) (C := Tryz.checked) false ⟨#[], #[], []⟩ 8 (by kernel_rfl) (by kernel_rfl) (by kernel_rfl) (by kernel_rfl)) ?_
  intro W base args ds gs before hval0 hW _ hsz0 _
  have hW' := hW
  obtain ⟨p, q, hA0, hV, rfl, hfz, hnd⟩ := hW
  have hA : DataW.TrodAll enc Tryz.prog W 0 (fun _ => true) true Tryz.f7.params.toList args.toList ds p := hA0
  have hK := hA
  rw [Tryz.params7] at hA
  obtain ⟨h0, rfl, rfl⟩ := trodAll_nil hA
  obtain rfl : args = #[] := by cases args; simp_all
  obtain ⟨rfl, rfl⟩ := trodVars_none hV
  clear hA0 hval0 hsz0
  refine (Vm.calls_of_says plainN mixed spoolNobody_says W).mono fun e W' ⟨he, bel⟩ => ?_
  subst he
  have hlt : ∀ x ∈ ([] : List MemPlace), x.block < W.heap.size := fun x hx => by cases hx
  exact ⟨_, rfl, _, _, _, [], _, [], hW', trodAll_mk1 (shut_bool Tryz.underlying4 _), all_stay laidOut bel (by rw [Tryz.params7]; intro t ht; simp at ht) hK hlt, rfl, bel.frame _, fun h => by cases h⟩

theorem spoolNobody_over : Rows.spoolNobodyRow.holds Tryz.pinned (OpenSpec.ofChange Rows.spoolNobodySpec) :=
  OpenClaim.holds_of_wide 7 Tryz.f7 rfl rfl rfl rfl rfl rfl rfl ⟨rfl, rfl, rfl, rfl, rfl⟩ rfl rfl rfl rfl rfl (by kernel_rfl) Tryz.func7 (by kernel_rfl)
    (of_decide_eq_true (by kernel_rfl)) (by unfold Func.isWrapper; first | (rw [if_pos (by decide +kernel)]; kernel_rfl) | (rw [if_neg (by decide +kernel)]; exact ⟨rfl, rfl⟩))
    (fun os started H enc _ => spoolNobody_lifted os started H enc)

theorem spoolNobody_proved : Rows.SpoolNobodySaid := spoolNobody_over
#print axioms spoolNobody_proved
end Go.Proofs.YtnlkkgpcikkpoaaGreat
