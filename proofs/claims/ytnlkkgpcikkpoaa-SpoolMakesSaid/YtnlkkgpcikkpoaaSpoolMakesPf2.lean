/-
  The statement SpoolMakes: for every input the law answers true, and its arguments read as before.
  Conditions: none beyond the row's own.
-/
import Derived.Test.YtnlkkgpcikkpoaaSpz
import Derived.Test.YtnlkkgpcikkpoaaSva
import Derived.Test.YtnlkkgpcikkpoaaShut
import Derived.Test.YtnlkkgpcikkpoaaRows
import Derived.WalkKit
import Derived.ProofKit
import Derived.OpenShut
import Derived.ShutString
import Derived.ChangeOld
import Derived.Below
import Derived.SizedLaws
set_option linter.unusedVariables false
set_option linter.unusedSimpArgs false
namespace Go.Proofs.Ytnlkkgpcikkpoaa
open Go.ChangeShapes Go.WideShapes Go.ChangeAt Go.RowKit Go.Deep Vm
set_option maxRecDepth 100000 in
set_option maxHeartbeats 4000000 in
theorem spoolMakes_lifted (os : Os) (started : os.Started) (H : Type) (enc : TypeId × Value → H) :
    ReturnsInHanded {} Try.checked os 3 .any (Rows.spoolMakesSpec.pre6 enc Try.prog Try.f3 Rows.spoolMakesRow.domain false) (Rows.spoolMakesSpec.post enc Try.prog Try.f3 false true false false) := by
  refine returnsInHanded_of_change_sized (C := Try.checked) own started (by kernel_rfl) Try.func3
    (ChangeSpec.witness6 (enc := enc) (C := Try.checked) false ⟨#[], #[.agg #[.int .i64 0, .int .i64 0, .slice none 0 0, .slice none 0 0]], []⟩ 8 (by kernel_rfl) (by kernel_rfl) (by kernel_rfl) (by kernel_rfl)) ?_
  intro W base args ds gs before hval0 hW _ hsz0 _
  have hsz : (DataW.weightsEach Try.prog (Try.f3.params.toList ++ Rows.spoolMakesSpec.plain.varTypes Try.prog) (ds ++ gs)).all (· ≤ reachBytes) = true := hsz0
  have hval : ∀ (j : Nat) t v, Try.f3.params[j]? = some t → args[j]? = some v → Value.okWide Try.prog W .any base t v := hval0
  have hW' := hW
  obtain ⟨p, q, hA0, hV, rfl, hfz, hnd⟩ := hW
  have hA : DataW.TrodAll enc Try.prog W 0 (fun _ => true) true Try.f3.params.toList args.toList ds p := hA0
  have hK := hA
  rw [Try.params3] at hA hval hsz
  obtain ⟨v0, vs0, d0, ds0, p0, q0, hargs, rfl, rfl, h0, r0⟩ := trodAll_cons hA
  obtain ⟨rfl, rfl, rfl⟩ := trodAll_nil r0
  obtain rfl : args = #[v0] := by cases args; simp_all
  obtain ⟨rfl, rfl⟩ := trodVars_none hV
  have hf : ∀ (j : Nat) t (d : DataW H), [24][j]? = some t → [d0][j]? = some d → ∀ n ∈ d.weights Try.prog t, n ≤ reachBytes := fun j t d ht hd n hn => by
    have := List.all_eq_true.1 hsz n (DataW.weights_mem_each (j := j) (t := t) (d := d) (by simpa using List.getElem?_append_left (l₂ := Rows.spoolMakesSpec.plain.varTypes Try.prog) (List.getElem?_eq_some_iff.1 ht).1 ▸ ht) (by simpa using hd) n hn)
    simpa using this
  have hBl : ∀ b, b < W.heap.size → (fun k => k < W.heap.size) b := fun b hb => hb
  obtain ⟨fu0, tr0⟩ := h0
  obtain ⟨sv0, sr0, mt0⟩ := sv_of_trod (P := Try.prog) hBl 10 24 fu0 _ _ (by kernel_rfl) tr0 (hf 0 _ _ rfl rfl)
  obtain ⟨cs0, e0, _⟩ := okWide_struct Try.underlying24 (hval 0 _ v0 rfl rfl)
  subst e0
  obtain ⟨parts, e1, k1⟩ := mt_struct Try.underlying24 mt0
  obtain ⟨p0', q0', rfl, a0, k1⟩ := all2_cons k1
  obtain ⟨p1', q1', rfl, a1, k1⟩ := all2_cons k1
  obtain ⟨p2', q2', rfl, a2, k1⟩ := all2_cons k1
  obtain ⟨p3', q3', rfl, a3, k1⟩ := all2_cons k1
  obtain rfl := all2_nil k1
  obtain ⟨K, rfl, _⟩ := mt_int Try.underlying3 a0
  obtain ⟨N, rfl, hN⟩ := mt_int Try.underlying3 a1
  obtain ⟨A, rfl, hA⟩ := mt_bytes Try.underlying22 Try.underlying5 (by kernel_rfl) (by kernel_rfl) a2
  obtain ⟨B, rfl, hB⟩ := mt_bytes Try.underlying22 Try.underlying5 (by kernel_rfl) (by kernel_rfl) a3
  subst e1
  clear hA0 hval0 hsz0
  refine (FnT.calls_true_agg (svs := [.val (.int .i64 K), .val (.int .i64 N), .cells A.size (bytesC A) 5, .cells B.size (bytesC B) 5]) (spoolMakes_fn A B K N hN) (by rfl) sr0).mono fun e W' ⟨he, bel⟩ => ?_
  subst he
  have hlt : ∀ x ∈ (p0 ++ [] : List MemPlace), x.block < W.heap.size := fun x hx => hW'.lt x (by simpa using hx)
  exact ⟨_, rfl, _, _, _, [], _, [], hW', trodAll_mk1 (shut_bool Try.underlying4 _), all_stay laidOut bel (by rw [Try.params3]; intro t ht; simp at ht; rcases ht with rfl <;> exact ⟨by kernel_rfl, of_decide_eq_true (by kernel_rfl)⟩) hK hlt, rfl, bel.frame _, fun h => by cases h⟩
theorem spoolMakes_over : Rows.spoolMakesRow.holds Try.pinned (OpenSpec.ofChange Rows.spoolMakesSpec) :=
  OpenClaim.holds_of_wide 3 Try.f3 rfl rfl rfl rfl rfl rfl rfl ⟨rfl, rfl, rfl, rfl, rfl⟩ rfl rfl rfl rfl rfl (by kernel_rfl) Try.func3 (by kernel_rfl)
    (of_decide_eq_true (by kernel_rfl)) (by unfold Func.isWrapper; first | (rw [if_pos (by decide +kernel)]; kernel_rfl) | (rw [if_neg (by decide +kernel)]; exact ⟨rfl, rfl⟩))
    (fun os started H enc _ => spoolMakes_lifted os started H enc)
theorem spoolMakes_proved : Rows.SpoolMakesSaid := spoolMakes_over
#print axioms spoolMakes_proved
end Go.Proofs.Ytnlkkgpcikkpoaa
