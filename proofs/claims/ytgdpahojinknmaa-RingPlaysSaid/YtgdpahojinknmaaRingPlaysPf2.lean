/-
  The statement RingPlays: for every input the law answers true, and its arguments read as before.
  Conditions: none beyond the row's own.
-/
import Derived.Test.YtgdpahojinknmaaRingPlaysN
import Derived.Test.YtgdpahojinknmaaDv1Pf
import Derived.Test.YtgdpahojinknmaaShut
import Derived.Test.YtgdpahojinknmaaRows
import Derived.WalkKit
import Derived.ProofKit
import Derived.OpenShut
import Derived.ShutString
import Derived.ChangeOld
import Derived.Below
import Derived.SizedLaws
namespace Go.Proofs.Ytgdpahojinknmaa
open Go.ChangeShapes Go.WideShapes Go.ChangeAt Go.RowKit Go.Deep Vm
set_option linter.unusedVariables false
set_option maxRecDepth 100000 in
set_option maxHeartbeats 4000000 in
theorem ringPlays_lifted (os : Os) (started : os.Started) (H : Type) (enc : TypeId × Value → H) :
    ReturnsInHanded {} Try.checked os 5 .any (Rows.ringPlaysSpec.pre6 enc Try.prog Try.f5 Rows.ringPlaysRow.domain false) (Rows.ringPlaysSpec.post enc Try.prog Try.f5 false true false false) := by
  refine returnsInHanded_of_change_sized (C := Try.checked) own started (by kernel_rfl) Try.func5
    (ChangeSpec.witness6 (enc := enc) (C := Try.checked) false ⟨#[], #[.int .i64 0, .slice none 0 0], []⟩ 8 (by kernel_rfl) (by kernel_rfl) (by kernel_rfl) (by kernel_rfl)) ?_
  intro W base args ds gs before hval0 hW _ hsz0 _
  have hsz : (DataW.weightsEach Try.prog (Try.f5.params.toList ++ Rows.ringPlaysSpec.plain.varTypes Try.prog) (ds ++ gs)).all (· ≤ reachBytes) = true := hsz0
  have hval : ∀ (j : Nat) t v, Try.f5.params[j]? = some t → args[j]? = some v → Value.okWide Try.prog W .any base t v := hval0
  have hW' := hW
  obtain ⟨p, q, hA0, hV, rfl, hfz, hnd⟩ := hW
  have hA : DataW.TrodAll enc Try.prog W 0 (fun _ => true) true Try.f5.params.toList args.toList ds p := hA0
  have hK := hA
  rw [Try.params5] at hA hval hsz
  obtain ⟨v0, vs0, d0, ds0, p0, q0, hargs, rfl, rfl, h0, r0⟩ := trodAll_cons hA
  obtain ⟨v1, vs1, d1, ds1, p1, q1, rfl, rfl, rfl, h1, r1⟩ := trodAll_cons r0
  obtain ⟨rfl, rfl, rfl⟩ := trodAll_nil r1
  obtain rfl : args = #[v0, v1] := by cases args; simp_all
  obtain ⟨rfl, rfl⟩ := trodVars_none hV
  have hf : ∀ (j : Nat) t (d : DataW H), [3, 22][j]? = some t → [d0, d1][j]? = some d → ∀ n ∈ d.weights Try.prog t, n ≤ reachBytes := fun j t d ht hd n hn => by
    have := List.all_eq_true.1 hsz n (DataW.weights_mem_each (j := j) (t := t) (d := d) (by simpa using List.getElem?_append_left (l₂ := Rows.ringPlaysSpec.plain.varTypes Try.prog) (List.getElem?_eq_some_iff.1 ht).1 ▸ ht) (by simpa using hd) n hn)
    simpa using this
  have hBl : ∀ b, b < W.heap.size → (fun k => k < W.heap.size) b := fun b hb => hb
  obtain ⟨fu0, tr0⟩ := h0
  obtain ⟨sv0, sr0, mt0⟩ := sv_of_trod (P := Try.prog) hBl 10 3 fu0 _ _ (by kernel_rfl) tr0 (hf 0 _ _ rfl rfl)
  obtain ⟨fu1, tr1⟩ := h1
  obtain ⟨sv1, sr1, mt1⟩ := sv_of_trod (P := Try.prog) hBl 10 22 fu1 _ _ (by kernel_rfl) tr1 (hf 1 _ _ rfl rfl)
  obtain ⟨c, e0⟩ := okWide_int Try.underlying3 (hval 0 _ v0 rfl rfl)
  subst e0
  obtain ⟨z0, rfl, zl0, zh0⟩ := mt_int Try.underlying3 mt0
  obtain rfl : z0 = c := by have := sr0.at_ 0 _ _ rfl rfl; cases this; rfl
  have s0 : SR Try.prog W (fun k => k < W.heap.size) (.val (.int .i64 z0)) (.int .i64 z0) := .val _ rfl
  obtain ⟨a1, len1, cap1, e1⟩ := okWide_slice Try.underlying22 (hval 1 _ v1 rfl rfl)
  subst e1
  obtain ⟨A, gA, s1⟩ := acts1_of mt1 sr1
  clear hA0 hval0 hsz0
  have hs : SRs Try.prog W (fun k => k < W.heap.size) [.val (.int .i64 z0), .rows A.length 2 fun i => act1 (A.getD i ⟨0, ByteArray.empty⟩)] #[.int .i64 z0, .slice a1 len1 cap1].toList := (SRs.append (.one s0) (SRs.append (.one s1) .nil))
  refine (FnT.calls_true (svs := [.val (.int .i64 z0), .rows A.length 2 fun i => act1 (A.getD i ⟨0, ByteArray.empty⟩)]) (ringPlays_fn A z0 gA) (by rfl) hs).mono fun e W' ⟨he, bel⟩ => ?_
  subst he
  have hlt : ∀ x ∈ (p0 ++ (p1 ++ []) : List MemPlace), x.block < W.heap.size := fun x hx => hW'.lt x (by simpa using hx)
  exact ⟨_, rfl, _, _, _, [], _, [], hW', trodAll_mk1 (shut_bool Try.underlying4 _), all_stay laidOut bel (by rw [Try.params5]; intro t ht; simp at ht; rcases ht with rfl | rfl <;> exact ⟨by kernel_rfl, of_decide_eq_true (by kernel_rfl)⟩) hK hlt, rfl, bel.frame _, fun h => by cases h⟩

theorem ringPlays_over : Rows.ringPlaysRow.holds Try.pinned (OpenSpec.ofChange Rows.ringPlaysSpec) :=
  OpenClaim.holds_of_wide 5 Try.f5 rfl rfl rfl rfl rfl rfl rfl ⟨rfl, rfl, rfl, rfl, rfl⟩ rfl rfl rfl rfl rfl (by kernel_rfl) Try.func5 (by kernel_rfl)
    (of_decide_eq_true (by kernel_rfl)) (by unfold Func.isWrapper; first | (rw [if_pos (by decide +kernel)]; kernel_rfl) | (rw [if_neg (by decide +kernel)]; exact ⟨rfl, rfl⟩))
    (fun os started H enc _ => ringPlays_lifted os started H enc)

theorem ringPlays_proved : Rows.RingPlaysSaid := ringPlays_over
#print axioms ringPlays_proved
end Go.Proofs.Ytgdpahojinknmaa
