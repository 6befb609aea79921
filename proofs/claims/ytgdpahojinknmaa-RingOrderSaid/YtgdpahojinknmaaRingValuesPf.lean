/-
  The statement RingValues: for every input the law answers true, and its arguments read as before.
  Conditions: none beyond the row's own.
-/
import Derived.Test.YtgdpahojinknmaaFrame
namespace Go.Proofs.Ytgdpahojinknmaa
open Go.ChangeShapes Go.WideShapes Go.ChangeAt Go.RowKit Go.Deep
set_option linter.unusedVariables false

theorem addr_add (b off j : Nat) : (⟨b, off, none⟩ : Addr).add j = ⟨b, off + j, none⟩ := by
  unfold Addr.add
  by_cases h : j = 0
  · rw [if_pos h, h]; rfl
  · rw [if_neg h]

set_option maxRecDepth 100000 in
theorem acts_open {H : Type} {enc : TypeId × Value → H} {W : World} {base : Nat} {v : Value} {d : DataW H} {p : List MemPlace}
    (h : DataW.Trod enc Try.prog W base (fun _ => true) true 22 v d p) (hv : Value.okWide Try.prog W .any base 22 v) (hf : ∀ n ∈ d.weights Try.prog 22, n ≤ reachBytes) :
    ∃ acts, ActsAt W v acts := by
  obtain ⟨a0, len0, cap0, rfl⟩ := okWide_slice Try.underlying22 hv
  obtain ⟨fuel, h⟩ := h
  rcases open_slice_fields Try.underlying22 Try.underlying34 (by kernel_rfl) (by kernel_rfl) h with ⟨hcs, hx⟩ | ⟨a, len, cap, m, D, Pl, hcs, _, hl, hm, hmm, hx, hi⟩
  · simp [Value.cells] at hcs
    obtain ⟨rfl, rfl, rfl⟩ := hcs
    exact ⟨[], none, 0, rfl, by decide, fun h => absurd h (by decide)⟩
  · simp [Value.cells] at hcs
    obtain ⟨rfl, rfl, rfl⟩ := hcs
    simp only [Prod.mk.injEq] at hx
    obtain ⟨hx, -⟩ := hx
    have hmm' : m = cap0 := by simpa using hmm
    subst hmm'
    have key : ∀ i, i < len0 → ∃ (d : Int) (s : ByteArray) (bv : Value), W.cell? (a.add (i * 2)) = some (.int .i64 d) ∧ W.cell? (a.add (i * 2 + 1)) = some bv ∧ BytesAt W bv s ∧ s.size ≤ 140737488351232 := by
      intro i hil
      obtain ⟨ys, n, hD, _, hlen, hfs⟩ := hi i (by omega)
      obtain ⟨v0, y0, hc0, hy0, ht0⟩ := hfs 0 _ rfl
      obtain ⟨v1, y1, hc1, hy1, ht1⟩ := hfs 1 _ rfl
      obtain ⟨z, e0, _, _⟩ := DataW.trod_int Try.underlying3 ht0
      simp only [List.cons.injEq, and_true] at e0
      subst e0
      have hw : ∀ q ∈ y1.1.weights Try.prog 32, q ≤ reachBytes := by
        intro q hq
        refine hf q ?_
        have hDi : (D i).weights Try.prog 34 = DataW.weightsEach Try.prog [3, 32] (ys.map (·.1)) := by
          rw [hD, DataW.weights, Try.underlying34]; rfl
        rw [hx, DataW.weights, Try.underlying22]
        dsimp only
        refine List.mem_cons_of_mem _ (List.mem_append_left _ (weights_mem_all (j := i) (d := D i) (by simp [hil]) q ?_))
        rw [hDi]
        exact DataW.weights_mem_each (j := 1) (t := 32) (d := y1.1) rfl (by simp [hy1]) q hq
      obtain ⟨s, hs, hs2⟩ := bytes_open Try.underlying32 Try.underlying5 (by kernel_rfl) (by kernel_rfl) ht1 hw
      exact ⟨z, s, v1, hc0, hc1, hs, hs2⟩
    let acts : List (Int × ByteArray) := (List.range len0).map fun i => if h : i < len0 then ((key i h).choose, (key i h).choose_spec.choose) else (0, ByteArray.empty)
    have hal : acts.length = len0 := by simp [acts]
    refine ⟨acts, some a, m, by rw [hal], by rw [hal]; omega, fun hp => ?_⟩
    rw [hal] at hp
    obtain ⟨b, off, spot⟩ := a
    have hspot : spot = none := by
      obtain ⟨d, s, bv, h0, _⟩ := key 0 hp
      have h9 := World.cell?_spot h0
      rw [Nat.zero_mul] at h9
      unfold Addr.add at h9
      rw [if_pos rfl] at h9
      exact h9
    subst hspot
    have hadd : ∀ j, (⟨b, off, none⟩ : Addr).add j = ⟨b, off + j, none⟩ := fun j => addr_add b off j
    have hb : b < W.heap.size := by
      obtain ⟨d, s, bv, h0, _⟩ := key 0 hp
      rw [hadd] at h0
      exact block_lt_of_cell h0
    refine ⟨b, off, rfl, hb, fun i hi => ?_⟩
    rw [hal] at hi
    have hget : acts.getD i (0, ByteArray.empty) = ((key i hi).choose, (key i hi).choose_spec.choose) := by
      simp [acts, List.getD, hi]
    rw [hget]
    obtain ⟨bv, h0, h1, h2, h3⟩ := (key i hi).choose_spec.choose_spec
    exact ⟨bv, (congrArg W.cell? (hadd _)).symm.trans h0, (congrArg W.cell? ((hadd _).trans (by rw [Nat.add_assoc]))).symm.trans h1, h2, h3⟩

set_option maxRecDepth 100000 in
theorem ringValues_lifted (os : Os) (started : os.Started) (H : Type) (enc : TypeId × Value → H) :
    ReturnsInHanded {} Try.checked os 4 .any (Rows.ringValuesSpec.pre6 enc Try.prog Try.f4 Rows.ringValuesRow.domain false) (Rows.ringValuesSpec.post enc Try.prog Try.f4 false true false false) := by
  refine returnsInHanded_of_change_sized (C := Try.checked) own started (by kernel_rfl) Try.func4
    (ChangeSpec.witness6 (enc := enc) (C := Try.checked) false ⟨#[], #[.int .i64 0, .slice none 0 0, .slice none 0 0], []⟩ 8 (by kernel_rfl) (by kernel_rfl) (by kernel_rfl) (by kernel_rfl)) ?_
  intro W base args ds gs before hval0 hW _ hsz0 _
  have hsz : (DataW.weightsEach Try.prog (Try.f4.params.toList ++ Rows.ringValuesSpec.plain.varTypes Try.prog) (ds ++ gs)).all (· ≤ reachBytes) = true := hsz0
  have hval : ∀ (j : Nat) t v, Try.f4.params[j]? = some t → args[j]? = some v → Value.okWide Try.prog W .any base t v := hval0
  have hW' := hW
  obtain ⟨p, q, hA0, hV, rfl, hfz, hnd⟩ := hW
  have hA : DataW.TrodAll enc Try.prog W 0 (fun _ => true) true Try.f4.params.toList args.toList ds p := hA0
  have hK := hA
  rw [Try.params4] at hA hval hsz
  obtain ⟨v0, vs0, d0, ds0, p0, q0, hargs, rfl, rfl, h0, r0⟩ := trodAll_cons hA
  obtain ⟨v1, vs1, d1, ds1, p1, q1, rfl, rfl, rfl, h1, r1⟩ := trodAll_cons r0
  obtain ⟨v2, vs2, d2, ds2, p2, q2, rfl, rfl, rfl, h2, r2⟩ := trodAll_cons r1
  obtain ⟨rfl, rfl, rfl⟩ := trodAll_nil r2
  obtain rfl : args = #[v0, v1, v2] := by cases args; simp_all
  obtain ⟨rfl, rfl⟩ := trodVars_none hV
  obtain ⟨c, rfl, rfl, rfl, w0⟩ := open_int Try.underlying3 (hval 0 _ v0 rfl rfl) h0
  have hf : ∀ (j : Nat) t (d : DataW H), [3, 22, 22][j]? = some t → [(.lit (.int .i64 c) : DataW H), d1, d2][j]? = some d → ∀ n ∈ d.weights Try.prog t, n ≤ reachBytes := fun j t d ht hd n hn => by
    have := List.all_eq_true.1 hsz n (DataW.weights_mem_each (j := j) (t := t) (d := d) (by simpa using List.getElem?_append_left (l₂ := Rows.ringValuesSpec.plain.varTypes Try.prog) (List.getElem?_eq_some_iff.1 ht).1 ▸ ht) (by simpa using hd) n hn)
    simpa using this
  obtain ⟨A, hA1⟩ := acts_open h1 (hval 1 _ v1 rfl rfl) (hf 1 _ _ rfl rfl)
  obtain ⟨B, hB1⟩ := acts_open h2 (hval 2 _ v2 rfl rfl) (hf 2 _ _ rfl rfl)
  clear hA0 hval0 hsz0
  refine (ringValues_any c v1 v2 A B W hA1 hB1).mono fun e W' ⟨he, bel⟩ => ?_
  subst he
  have hlt : ∀ x ∈ ([] ++ (p1 ++ (p2 ++ [])) : List MemPlace), x.block < W.heap.size := fun x hx => hW'.lt x (by simpa using hx)
  exact ⟨_, rfl, _, _, _, [], _, [], hW', trodAll_mk1 (shut_bool Try.underlying4 _), all_stay laidOut bel (by rw [Try.params4]; intro t ht; simp at ht; rcases ht with rfl | rfl <;> exact ⟨by kernel_rfl, of_decide_eq_true (by kernel_rfl)⟩) hK hlt, rfl, bel.frame _, fun h => by cases h⟩

theorem ringValues_over : Rows.ringValuesRow.holds Try.pinned (OpenSpec.ofChange Rows.ringValuesSpec) :=
  OpenClaim.holds_of_wide 4 Try.f4 rfl rfl rfl rfl rfl rfl rfl ⟨rfl, rfl, rfl, rfl, rfl⟩ rfl rfl rfl rfl rfl (by kernel_rfl) Try.func4 (by kernel_rfl)
    (of_decide_eq_true (by kernel_rfl)) (by unfold Func.isWrapper; first | (rw [if_pos (by decide +kernel)]; kernel_rfl) | (rw [if_neg (by decide +kernel)]; exact ⟨rfl, rfl⟩))
    (fun os started H enc _ => ringValues_lifted os started H enc)

theorem ringValues_proved : Rows.RingValuesSaid := ringValues_over
#print axioms ringValues_proved
end Go.Proofs.Ytgdpahojinknmaa
