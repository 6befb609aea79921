/-
  The statement MeansFirst: for every input the law answers true, and its arguments read as before.
  Conditions: none beyond the row's own.
-/
import Derived.Test.YtdbjloigfkckfaaGreatDoorMfl
import Derived.Test.YtdbjloigfkckfaaGreatDoorShut
import Derived.Test.YtdbjloigfkckfaaGreatDoorRows
import Derived.WalkKit
import Derived.ProofKit
import Derived.OpenShut
import Derived.ShutString
import Derived.ChangeOld
import Derived.Below
import Derived.SizedLaws
import Derived.LaidMore
import Derived.Lay
import Derived.SevenTiedAt
import Derived.Stop.Joined
import Derived.Handed
import Derived.Test.YtdbjloigfkckfaaGreatDoorTie
import Derived.Test.YtdbjloigfkckfaaGreatDoorCards
namespace Go.Proofs.YtdbjloigfkckfaaGreatDoor
open Go.ChangeShapes Go.WideShapes Go.ChangeAt Go.RowKit Go.Deep Vm
set_option linter.unusedVariables false
set_option maxRecDepth 100000 in
set_option maxHeartbeats 4000000 in
theorem meansFirst_lifted (os : Os) (started : os.Started) (H : Type) (enc : TypeId × Value → H) :
    ReturnsInHanded {} Tryz.checked os 3 .any (fun w args => (Rows.meansFirstSpec.pre enc Tryz.prog Tryz.f3 Rows.meansFirstRow.domain false w args ∧ laidMetH Tryz.prog Rows.meansFirstRow.laid w) ∧ sizedMet enc Tryz.prog Tryz.f3 (OpenSpec.ofChange Rows.meansFirstSpec) false w args) (Rows.meansFirstSpec.post enc Tryz.prog Tryz.f3 false true false false) := by
  refine returnsInHanded_of_change_and (C := Tryz.checked) (X := fun w _ => laidMetH Tryz.prog Rows.meansFirstRow.laid w) (fun _ _ _ hh h => h.of_heap hh) own started (by kernel_rfl) Tryz.func3
    (ChangeSpec.witness_shaped (enc := enc) (C := Tryz.checked) (os := os) (X := fun w _ => laidMetH Tryz.prog Rows.meansFirstRow.laid w) false (World.laidAll Tryz.prog os Rows.meansFirstRow.laid) #[.slice none 0 0] 8 (World.laidAll_os _ _ _)
      (World.shaped_of_ZipB (by kernel_rfl) (by kernel_rfl)) (by kernel_rfl) (by kernel_rfl) (by kernel_rfl)
      (by rw [MakeChecks.laidMetH_plain _ _ _ (by kernel_rfl)]; exact laidMet_laidAll _ (by kernel_rfl) (by kernel_rfl))) ?_
  intro W base args ds gs before hval0 hW _ hsz0 hL _
  have hsz : (DataW.weightsEach Tryz.prog (Tryz.f3.params.toList ++ Rows.meansFirstSpec.plain.varTypes Tryz.prog) (ds ++ gs)).all (· ≤ reachBytes) = true := hsz0
  have hval : ∀ (j : Nat) t v, Tryz.f3.params[j]? = some t → args[j]? = some v → Value.okWide Tryz.prog W .any base t v := hval0
  have hW' := hW
  obtain ⟨p, q, hA0, hV, rfl, hfz, hnd⟩ := hW
  have hA : DataW.TrodAll enc Tryz.prog W 0 (fun _ => true) true Tryz.f3.params.toList args.toList ds p := hA0
  have hK := hA
  rw [Tryz.params3] at hA hval hsz
  obtain ⟨v0, vs0, d0, ds0, p0, q0, hargs, rfl, rfl, h0, r0⟩ := trodAll_cons hA
  obtain ⟨rfl, rfl, rfl⟩ := trodAll_nil r0
  obtain rfl : args = #[v0] := by cases args; simp_all
  obtain ⟨rfl, rfl⟩ := trodVars_none hV
  have hf : ∀ (j : Nat) t (d : DataW H), [22][j]? = some t → [d0][j]? = some d → ∀ n ∈ d.weights Tryz.prog t, n ≤ reachBytes := fun j t d ht hd n hn => by
    have := List.all_eq_true.1 hsz n (DataW.weights_mem_each (j := j) (t := t) (d := d) (by simpa using List.getElem?_append_left (l₂ := Rows.meansFirstSpec.plain.varTypes Tryz.prog) (List.getElem?_eq_some_iff.1 ht).1 ▸ ht) (by simpa using hd) n hn)
    simpa using this
  have hBl : ∀ b, b < W.heap.size → (fun k => k < W.heap.size) b := fun b hb => hb
  obtain ⟨fu0, tr0⟩ := h0
  obtain ⟨sv0, sr0, mt0⟩ := sv_of_trod (P := Tryz.prog) hBl 10 22 fu0 _ _ (by kernel_rfl) tr0 (hf 0 _ _ rfl rfl)
  obtain ⟨a0, len0, cap0, e0⟩ := okWide_slice Tryz.underlying22 (hval 0 _ v0 rfl rfl)
  subst e0
  obtain ⟨l, s0⟩ := stms_of mt0 sr0
  clear hA0 hval0 hsz0
  have hs : SRs Tryz.prog W (fun k => k < W.heap.size) [.rows l.length 5 fun i => stmV (l.getD i ⟨ByteArray.empty, false, 0, 0, 0⟩)] #[.slice a0 len0 cap0].toList := (SRs.append (.one s0) .nil)
  refine (FnT.calls_true (svs := [.rows l.length 5 fun i => stmV (l.getD i ⟨ByteArray.empty, false, 0, 0, 0⟩)]) (meansFirst_fn l) (by rfl) hs).mono fun e W' ⟨he, bel⟩ => ?_
  subst he
  have hlt : ∀ x ∈ (p0 ++ [] : List MemPlace), x.block < W.heap.size := fun x hx => hW'.lt x (by simpa using hx)
  exact ⟨_, rfl, _, _, _, [], _, [], hW', trodAll_mk1 (shut_bool Tryz.underlying4 _), all_stay laidOut bel (by rw [Tryz.params3]; intro t ht; simp at ht; rcases ht with rfl <;> exact ⟨by kernel_rfl, of_decide_eq_true (by kernel_rfl)⟩) hK hlt, rfl, bel.frame _, fun h => by cases h⟩

theorem meansFirst_over : Rows.meansFirstRow.holds Tryz.pinned (OpenSpec.ofChange Rows.meansFirstSpec) :=
  OpenClaim.holds_of_wide 3 Tryz.f3 rfl rfl rfl rfl rfl rfl rfl ⟨rfl, rfl, rfl, rfl, rfl⟩ rfl rfl rfl rfl rfl (by kernel_rfl) Tryz.func3 (by kernel_rfl)
    (of_decide_eq_true (by kernel_rfl)) (by unfold Func.isWrapper; first | (rw [if_pos (by decide +kernel)]; kernel_rfl) | (rw [if_neg (by decide +kernel)]; exact ⟨rfl, rfl⟩))
    (fun os started H enc _ => meansFirst_lifted os started H enc)

theorem meansFirst_proved : Rows.MeansFirstCardSaid :=
  Claim7.holds_tied_plain_at .later [] [.data, .data, .data, .data, .pinned] true (true, "f1d748c06cda7ad4f855ec08891230242b336d9a9576bf27ee3f66f3c144b2cd") false meansFirst_over (fun _ h => by cases h) (by kernel_rfl) (fun _ h => by cases h) meansFirst_row_tie rfl ⟨rfl, rfl⟩ (by kernel_rfl) rfl
    (fun f fn hf hfn => by
      obtain rfl : f = 3 := Option.some.inj ((show Tryz.prog.funcNamed "penstock/penstocklaw21.MeansFirst" = some 3 by kernel_rfl).symm.trans hf) |>.symm
      obtain rfl : fn = Tryz.f3 := (Option.some.inj (Tryz.func3.symm.trans hfn)).symm
      exact ⟨by kernel_rfl, fun j t ht => by
        rw [Tryz.params3] at ht
        have hm : t ∈ [22] := by simpa using Array.mem_of_getElem? ht
        have hall : ([22].all fun u => !Tryz.prog.wantsStandIn u) = true := by kernel_rfl
        exact (show Tryz.prog.wantsStandIn t = false by simpa using List.all_eq_true.1 hall t hm)⟩)
    (by kernel_rfl)
#print axioms meansFirst_proved
end Go.Proofs.YtdbjloigfkckfaaGreatDoor
