/- Part of the proof: ScriptPrintsPf2. -/
import Derived.Test.YtgepfmamfdmclaaGreatDoorJBj
import Derived.Test.YtgepfmamfdmclaaGreatDoorJBl
import Derived.Test.YtgepfmamfdmclaaGreatDoorJBm
import Derived.Test.YtgepfmamfdmclaaGreatDoorJBn
import Derived.Test.YtgepfmamfdmclaaGreatDoorRows
import Derived.WalkKit
import Derived.ProofKit
import Derived.OpenShut
import Derived.ShutString
import Derived.ChangeOld
import Derived.Below
import Derived.SizedLaws
import Derived.LaidMore
import Derived.Lay
import Derived.SevenTiedAt
import Derived.Stop.Joined
import Derived.Handed
import Derived.Test.YtgepfmamfdmclaaGreatDoorTie
import Derived.Test.YtgepfmamfdmclaaGreatDoorCards
set_option linter.unusedVariables false
set_option linter.unusedSimpArgs false
set_option maxRecDepth 100000
/-
 The statement ScriptPrints: for every input the law answers true, and its arguments read as before.
 Conditions: none beyond the row's own.
-/
namespace Go.Proofs.YtgepfmamfdmclaaGreatDoor
open Go.ChangeShapes Go.WideShapes Go.ChangeAt Go.RowKit Go.Deep Vm
set_option maxRecDepth 100000 in
set_option maxHeartbeats 4000000 in
theorem scriptPrints_lifted (os : Os) (started : os.Started) (H : Type) (enc : TypeId × Value → H) :
  ReturnsInHanded {} Tryz.checked os 5 .any (fun w args => (Rows.scriptPrintsSpec.pre enc Tryz.prog Tryz.f5 Rows.scriptPrintsRow.domain false w args ∧ laidMetH Tryz.prog Rows.scriptPrintsRow.laid w) ∧ sizedMet enc Tryz.prog Tryz.f5 (OpenSpec.ofChange Rows.scriptPrintsSpec) false w args) (Rows.scriptPrintsSpec.post enc Tryz.prog Tryz.f5 false true false false) := by
 refine returnsInHanded_of_change_and (C := Tryz.checked) (X := fun w _ => laidMetH Tryz.prog Rows.scriptPrintsRow.laid w) (fun _ _ _ hh h => h.of_heap hh) own started (by kernel_rfl) Tryz.func5
  (ChangeSpec.witness_shaped (enc := enc) (C := Tryz.checked) (os := os) (X := fun w _ => laidMetH Tryz.prog Rows.scriptPrintsRow.laid w) false (World.laidAll Tryz.prog os Rows.scriptPrintsRow.laid) #[.agg #[.slice none 0 0, .slice none 0 0, .slice none 0 0, .slice none 0 0, .slice none 0 0, .slice none 0 0, .slice none 0 0]] 8 (World.laidAll_os _ _ _)
   (World.shaped_of_ZipB (by kernel_rfl) (by kernel_rfl)) (by kernel_rfl) (by kernel_rfl) (by kernel_rfl)
   (by rw [MakeChecks.laidMetH_plain _ _ _ (by kernel_rfl)]; exact laidMet_laidAll _ (by kernel_rfl) (by kernel_rfl))) ?_
 intro W base args ds gs before hval0 hW _ hsz0 hL _
 have hsz : (DataW.weightsEach Tryz.prog (Tryz.f5.params.toList ++ Rows.scriptPrintsSpec.plain.varTypes Tryz.prog) (ds ++ gs)).all (· ≤ reachBytes) = true := hsz0
 have hval : ∀ (j : Nat) t v, Tryz.f5.params[j]? = some t → args[j]? = some v → Value.okWide Tryz.prog W .any base t v := hval0
 have hW' := hW
 obtain ⟨p, q, hA0, hV, rfl, hfz, hnd⟩ := hW
 have hA : DataW.TrodAll enc Tryz.prog W 0 (fun _ => true) true Tryz.f5.params.toList args.toList ds p := hA0
 have hK := hA
 rw [Tryz.params5] at hA hval hsz
 obtain ⟨v0, vs0, d0, ds0, p0, q0, hargs, rfl, rfl, h0, r0⟩ := trodAll_cons hA
 obtain ⟨rfl, rfl, rfl⟩ := trodAll_nil r0
 obtain rfl : args = #[v0] := by cases args; simp_all
 obtain ⟨rfl, rfl⟩ := trodVars_none hV
 have hf : ∀ (j : Nat) t (d : DataW H), [34][j]? = some t → [d0][j]? = some d → ∀ n ∈ d.weights Tryz.prog t, n ≤ reachBytes := fun j t d ht hd n hn => by
  have := List.all_eq_true.1 hsz n (DataW.weights_mem_each (j := j) (t := t) (d := d) (by simpa using List.getElem?_append_left (l₂ := Rows.scriptPrintsSpec.plain.varTypes Tryz.prog) (List.getElem?_eq_some_iff.1 ht).1 ▸ ht) (by simpa using hd) n hn)
  simpa using this
 have hBl : ∀ b, b < W.heap.size → (fun k => k < W.heap.size) b := fun b hb => hb
 obtain ⟨fu0, tr0⟩ := h0
 obtain ⟨sv0, sr0, mt0⟩ := sv_of_trod (P := Tryz.prog) hBl 10 34 fu0 _ _ (by kernel_rfl) tr0 (hf 0 _ _ rfl rfl)
 obtain ⟨cs0, e0, _⟩ := okWide_struct Tryz.underlying34 (hval 0 _ v0 rfl rfl)
 subst e0
 obtain ⟨J, hJ, sr0⟩ := job_of mt0 sr0
 have hEnv : Env (fun k => k < W.heap.size) W := fun w' hb => Lib.tabBelow_of_tabIs (pow_of hL) w' hb.below
 clear hA0 hval0 hsz0
 refine (FnT.calls_true_agg (svs := jobSV J) (scriptPrints_fn J hJ) (by rfl) sr0 (henv := hEnv)).mono fun e W' ⟨he, bel⟩ => ?_
 subst he
 have hlt : ∀ x ∈ (p0 ++ [] : List MemPlace), x.block < W.heap.size := fun x hx => hW'.lt x (by simpa using hx)
 exact ⟨_, rfl, _, _, _, [], _, [], hW', trodAll_mk1 (shut_bool Tryz.underlying4 _), all_stay laidOut bel (by rw [Tryz.params5]; intro t ht; simp at ht; rcases ht with rfl <;> exact ⟨by kernel_rfl, of_decide_eq_true (by kernel_rfl)⟩) hK hlt, rfl, bel.frame _, fun h => by cases h⟩
theorem scriptPrints_facts : joinedFacts Tryz.prog 5 Tryz.f5 Rows.scriptPrintsSpec Rows.scriptPrintsRow = true := by
 unfold joinedFacts
 rw [spf1, spf2, spf3, spf4]
 kernel_rfl
theorem scriptPrints_over : Rows.scriptPrintsRow.holds Tryz.pinned (OpenSpec.ofChange Rows.scriptPrintsSpec) :=
 OpenClaim.holds_of_wide 5 Tryz.f5 rfl rfl rfl rfl rfl rfl rfl ⟨rfl, rfl, rfl, rfl, rfl⟩ rfl rfl rfl rfl rfl (by kernel_rfl) Tryz.func5 scriptPrints_facts
  (of_decide_eq_true (by kernel_rfl)) (by unfold Func.isWrapper; first | (rw [if_pos (by decide +kernel)]; kernel_rfl) | (rw [if_neg (by decide +kernel)]; exact ⟨rfl, rfl⟩))
  (fun os started H enc _ => scriptPrints_lifted os started H enc)
end Go.Proofs.YtgepfmamfdmclaaGreatDoor
