/-
  The statement DuctValues: for every input the law answers true, and its arguments read as before.
  Conditions: none beyond the row's own.
-/
import Derived.Test.YtgdpahojinknmaaDuctValuesN
import Derived.Test.YtgdpahojinknmaaDv22Pf
import Derived.Test.YtgdpahojinknmaaShut
import Derived.Test.YtgdpahojinknmaaRows
import Derived.WalkKit
import Derived.ProofKit
import Derived.OpenShut
import Derived.ShutString
import Derived.ChangeOld
import Derived.Below
import Derived.SizedLaws
namespace Go.Proofs.Ytgdpahojinknmaa
open Go.ChangeShapes Go.WideShapes Go.ChangeAt Go.RowKit Go.Deep Vm
set_option linter.unusedVariables false
set_option maxRecDepth 100000 in
set_option maxHeartbeats 4000000 in
theorem ductValues_lifted (os : Os) (started : os.Started) (H : Type) (enc : TypeId × Value → H) :
    ReturnsInHanded {} Try.checked os 6 .any (Rows.ductValuesSpec.pre6 enc Try.prog Try.f6 Rows.ductValuesRow.domain false) (Rows.ductValuesSpec.post enc Try.prog Try.f6 false true false false) := by
  refine returnsInHanded_of_change_sized (C := Try.checked) own started (by kernel_rfl) Try.func6
    (ChangeSpec.witness6 (enc := enc) (C := Try.checked) false ⟨#[], #[.int .i64 0, .slice none 0 0, .slice none 0 0], []⟩ 8 (by kernel_rfl) (by kernel_rfl) (by kernel_rfl) (by kernel_rfl)) ?_
  intro W base args ds gs before hval0 hW _ hsz0 _
  have hsz : (DataW.weightsEach Try.prog (Try.f6.params.toList ++ Rows.ductValuesSpec.plain.varTypes Try.prog) (ds ++ gs)).all (· ≤ reachBytes) = true := hsz0
  have hval : ∀ (j : Nat) t v, Try.f6.params[j]? = some t → args[j]? = some v → Value.okWide Try.prog W .any base t v := hval0
  have hW' := hW
  obtain ⟨p, q, hA0, hV, rfl, hfz, hnd⟩ := hW
  have hA : DataW.TrodAll enc Try.prog W 0 (fun _ => true) true Try.f6.params.toList args.toList ds p := hA0
  have hK := hA
  rw [Try.params6] at hA hval hsz
  obtain ⟨v0, vs0, d0, ds0, p0, q0, hargs, rfl, rfl, h0, r0⟩ := trodAll_cons hA
  obtain ⟨v1, vs1, d1, ds1, p1, q1, rfl, rfl, rfl, h1, r1⟩ := trodAll_cons r0
  obtain ⟨v2, vs2, d2, ds2, p2, q2, rfl, rfl, rfl, h2, r2⟩ := trodAll_cons r1
  obtain ⟨rfl, rfl, rfl⟩ := trodAll_nil r2
  obtain rfl : args = #[v0, v1, v2] := by cases args; simp_all
  obtain ⟨rfl, rfl⟩ := trodVars_none hV
  have hf : ∀ (j : Nat) t (d : DataW H), [3, 52, 52][j]? = some t → [d0, d1, d2][j]? = some d → ∀ n ∈ d.weights Try.prog t, n ≤ reachBytes := fun j t d ht hd n hn => by
    have := List.all_eq_true.1 hsz n (DataW.weights_mem_each (j := j) (t := t) (d := d) (by simpa using List.getElem?_append_left (l₂ := Rows.ductValuesSpec.plain.varTypes Try.prog) (List.getElem?_eq_some_iff.1 ht).1 ▸ ht) (by simpa using hd) n hn)
    simpa using this
  have hBl : ∀ b, b < W.heap.size → (fun k => k < W.heap.size) b := fun b hb => hb
  obtain ⟨fu0, tr0⟩ := h0
  obtain ⟨sv0, sr0, mt0⟩ := sv_of_trod (P := Try.prog) hBl 10 3 fu0 _ _ (by kernel_rfl) tr0 (hf 0 _ _ rfl rfl)
  obtain ⟨fu1, tr1⟩ := h1
  obtain ⟨sv1, sr1, mt1⟩ := sv_of_trod (P := Try.prog) hBl 10 52 fu1 _ _ (by kernel_rfl) tr1 (hf 1 _ _ rfl rfl)
  obtain ⟨fu2, tr2⟩ := h2
  obtain ⟨sv2, sr2, mt2⟩ := sv_of_trod (P := Try.prog) hBl 10 52 fu2 _ _ (by kernel_rfl) tr2 (hf 2 _ _ rfl rfl)
  obtain ⟨c, e0⟩ := okWide_int Try.underlying3 (hval 0 _ v0 rfl rfl)
  subst e0
  obtain ⟨z0, rfl, zl0, zh0⟩ := mt_int Try.underlying3 mt0
  obtain rfl : z0 = c := by have := sr0.at_ 0 _ _ rfl rfl; cases this; rfl
  have s0 : SR Try.prog W (fun k => k < W.heap.size) (.val (.int .i64 z0)) (.int .i64 z0) := .val _ rfl
  obtain ⟨a1, len1, cap1, e1⟩ := okWide_slice Try.underlying52 (hval 1 _ v1 rfl rfl)
  subst e1
  obtain ⟨A, gA, s1⟩ := acts22_of mt1 sr1
  obtain ⟨a2, len2, cap2, e2⟩ := okWide_slice Try.underlying52 (hval 2 _ v2 rfl rfl)
  subst e2
  obtain ⟨B, gB, s2⟩ := acts22_of mt2 sr2
  clear hA0 hval0 hsz0
  have hs : SRs Try.prog W (fun k => k < W.heap.size) [.val (.int .i64 z0), .rows A.length 5 fun i => act22 (A.getD i ⟨0, ByteArray.empty, 0, 0, 0⟩), .rows B.length 5 fun i => act22 (B.getD i ⟨0, ByteArray.empty, 0, 0, 0⟩)] #[.int .i64 z0, .slice a1 len1 cap1, .slice a2 len2 cap2].toList := (SRs.append (.one s0) (SRs.append (.one s1) (SRs.append (.one s2) .nil)))
  refine (FnT.calls_true (svs := [.val (.int .i64 z0), .rows A.length 5 fun i => act22 (A.getD i ⟨0, ByteArray.empty, 0, 0, 0⟩), .rows B.length 5 fun i => act22 (B.getD i ⟨0, ByteArray.empty, 0, 0, 0⟩)]) (ductValues_fn A B z0 gA gB) (by rfl) hs).mono fun e W' ⟨he, bel⟩ => ?_
  subst he
  have hlt : ∀ x ∈ (p0 ++ (p1 ++ (p2 ++ [])) : List MemPlace), x.block < W.heap.size := fun x hx => hW'.lt x (by simpa using hx)
  exact ⟨_, rfl, _, _, _, [], _, [], hW', trodAll_mk1 (shut_bool Try.underlying4 _), all_stay laidOut bel (by rw [Try.params6]; intro t ht; simp at ht; rcases ht with rfl | rfl <;> exact ⟨by kernel_rfl, of_decide_eq_true (by kernel_rfl)⟩) hK hlt, rfl, bel.frame _, fun h => by cases h⟩

theorem ductValues_over : Rows.ductValuesRow.holds Try.pinned (OpenSpec.ofChange Rows.ductValuesSpec) :=
  OpenClaim.holds_of_wide 6 Try.f6 rfl rfl rfl rfl rfl rfl rfl ⟨rfl, rfl, rfl, rfl, rfl⟩ rfl rfl rfl rfl rfl (by kernel_rfl) Try.func6 (by kernel_rfl)
    (of_decide_eq_true (by kernel_rfl)) (by unfold Func.isWrapper; first | (rw [if_pos (by decide +kernel)]; kernel_rfl) | (rw [if_neg (by decide +kernel)]; exact ⟨rfl, rfl⟩))
    (fun os started H enc _ => ductValues_lifted os started H enc)

theorem ductValues_proved : Rows.DuctValuesSaid := ductValues_over
#print axioms ductValues_proved
end Go.Proofs.Ytgdpahojinknmaa
