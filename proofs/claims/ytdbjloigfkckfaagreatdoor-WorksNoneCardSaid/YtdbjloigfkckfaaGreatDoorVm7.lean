/- The small machine, its seventh text: makes, builds, slices. -/
import Derived.Test.YtdbjloigfkckfaaGreatDoorVm6
import Derived.IntWalk
namespace Go.Proofs.YtdbjloigfkckfaaGreatDoor.Vm
open Go.RowKit
set_option linter.unusedVariables false
set_option linter.unusedSimpArgs false

section
variable {P : Program} {B : Nat → Prop} {w₀ : World} {ρ : Ren} {g : Nat → Option VObj} {n : Nat} {w : World}

theorem run_makeMap_none (t : TypeId) : (Instr.makeMap t none).run P w = .ok (.map (some w.heap.size)) (w.alloc (.map #[] 0)) := rfl

theorem Fits.newMap (hw : WR P B w₀ ρ g w) (hn : g n = none) :
    Fits P B w₀ ρ g n ⟨.val (.map (some n)), [], some (.map [] 0)⟩ (.ok (.value (.map (some w.heap.size))) (w.alloc (.map #[] 0))) := by
  refine ⟨ρ.put n ⟨w.heap.size, 0, 0, 0⟩, _, Ren.put_le (hw.fresh n hn) _, .val _ _ _ (.map n _ (Ren.put_same _ _ _)), hw.alloc hn rfl ?_⟩
  exact .map [] #[] 0 rfl fun i e e' h => by simp at h

theorem makeMapV_ok (hw : WR P B w₀ ρ g w) {t : TypeId} {r r' : Option Value} (hr : ∀ v, r = some v → ∃ v', r' = some v' ∧ VR ρ v v') (hr0 : r = none → r' = none)
    {out : OOut} {l : List Nat} (hn : out.nw ≠ none → g n = none) (h : (makeMapV P t r n).run g = some (out, l)) :
    Fits P B w₀ ρ g n out ((do let v ← Instr.makeMap t r'; pure (Next.value v) : Sem Next).run P w) := by
  unfold makeMapV at h
  split at h
  · rw [hr0 rfl]
    obtain rfl := new_run h
    exact Fits.newMap hw (hn (by simp))
  · obtain ⟨v', rfl, hv⟩ := hr _ rfl
    rw [hv.int_inv]
    split at h
    · rename_i hu
      obtain rfl := new_run h
      replace hn := hn (by simp)
      rw [Sem.run_bind]
      unfold Instr.makeMap
      simp only [Sem.run_bind, run_underlying hu, Result.andThen_ok, asInt, asIntOf, Sem.run_pure, run_newObj]
      exact Fits.newMap hw hn
    · cases h
  · cases h

theorem repl_length (z : List Value) (k : Nat) : (repl z k).length = k * z.length := by
  induction k with
  | zero => simp [repl]
  | succ k ih => simp [repl, ih, Nat.succ_mul]; omega

theorem repl_get (z : List Value) : ∀ (k i : Nat), i < k * z.length → (repl z k)[i]? = z[i % z.length]?
  | 0, i, h => by simp at h
  | k + 1, i, h => by
    rw [Nat.succ_mul] at h
    have e : repl z (k + 1) = z ++ repl z k := rfl
    rw [e]
    by_cases hi : i < z.length
    · rw [List.getElem?_append_left hi, Nat.mod_eq_of_lt hi]
    · have ih := repl_get z k (i - z.length) (by omega)
      rw [List.getElem?_append_right (by omega), ih]
      congr 1
      rw [Nat.mod_eq_sub_mod (a := i) (by omega)]

/-- The model's row of zeros. -/
theorem zeros_eq (z : Value) (k : Nat) : ((Array.range (k * z.cells.size)).map fun i => z.cells[i % z.cells.size]!) = (repl z.cells.toList k).toArray := by
  apply Array.ext'
  apply List.ext_getElem?
  intro i
  have hlen : z.cells.toList.length = z.cells.size := by simp
  have hrl : (repl z.cells.toList k).length = k * z.cells.size := by rw [repl_length, hlen]
  by_cases hi : i < k * z.cells.size
  · have h1 := repl_get z.cells.toList k i (by rw [hlen]; exact hi)
    rw [hlen] at h1
    have hpos : 0 < z.cells.size := by
      rcases Nat.eq_zero_or_pos z.cells.size with h0 | h0
      · rw [h0] at hi; simp at hi
      · exact h0
    have hm : i % z.cells.size < z.cells.size := Nat.mod_lt _ hpos
    show _ = (repl z.cells.toList k)[i]?
    rw [h1]
    simp [hi, getElem!_pos, hm]
  · show _ = (repl z.cells.toList k)[i]?
    rw [List.getElem?_eq_none (l := repl z.cells.toList k) (by rw [hrl]; omega), List.getElem?_eq_none (by simp; omega)]

theorem flat_cells {z : Value} (h : fl z = true) : LR ρ z.cells.toList z.cells.toList := (fl_refl h).cells

theorem LR.repl {z z' : List Value} (h : LR ρ z z') : ∀ k, LR ρ (repl z k) (repl z' k)
  | 0 => LR.nil ρ
  | k + 1 => h.append (LR.repl h k)

theorem run_asInt (k : IntKind) (i : Int) : (asInt (.int k i)).run P w = .ok i w := rfl

theorem makeSliceV_ok (hw : WR P B w₀ ρ g w) {t : TypeId} {a a' b b' : Value} (ha : VR ρ a a') (hb : VR ρ b b') {out : OOut} {l : List Nat}
    (hn : out.nw ≠ none → g n = none) (h : (makeSliceV P t a b n).run g = some (out, l)) : Fits P B w₀ ρ g n out ((do let v ← Instr.makeSlice t a' b'; pure (Next.value v) : Sem Next).run P w) := by
  unfold makeSliceV at h
  split at h
  · rename_i el i c hu hi hc
    obtain ⟨ki, rfl⟩ := nOf_some hi
    obtain ⟨kc, rfl⟩ := nOf_some hc
    rw [ha.int_inv, hb.int_inv]
    split at h
    · rename_i size z bytes hs hz hby
      split at h
      · rename_i hcond
        simp only [Bool.and_eq_true] at hcond
        obtain ⟨⟨⟨⟨hf, h1⟩, h2⟩, h3⟩, h4⟩ := hcond
        have h1 := Nat.le_of_ble_eq_true h1
        have h2 := Nat.le_of_ble_eq_true h2
        have h3 := Nat.le_of_ble_eq_true h3
        have h4 := Nat.eq_of_beq_eq_true h4
        obtain rfl := new_run h
        replace hn := hn (by simp)
        have hby' : ∃ inf, P.info? el = some inf ∧ inf.bytes = bytes := by
          cases hinf : P.info? el with
          | none => rw [hinf] at hby; cases hby
          | some inf => rw [hinf] at hby; cases hby; exact ⟨inf, rfl, rfl⟩
        obtain ⟨inf, hinf, rfl⟩ := hby'
        have wi : IntKind.i64.wrap (i : Int) = i := IntWalk.i64_in _ (by omega)
        have wc : IntKind.i64.wrap (c : Int) = c := IntWalk.i64_in _ (by omega)
        have hprod : inf.bytes * c ≤ 1000000000000 := Nat.mul_le_mul h3 h2
        have hrun : (Instr.makeSlice t (.int ki i) (.int kc c)).run P w = .ok (.slice (some ⟨w.heap.size, 0, none⟩) i c) (w.alloc (.cells (repl z.cells.toList c).toArray el)) := by
          unfold Instr.makeSlice
          rw [Sem.run_bind, run_underlying hu, Result.andThen_ok]
          dsimp only
          rw [Sem.run_bind, run_asInt, Result.andThen_ok, Sem.run_bind, run_asInt, Result.andThen_ok]
          simp only [typeInfo, Sem.run_bind, run_program, Result.andThen_ok, hinf, Sem.run_pure, wi, wc]
          have hp : (inf.bytes : Int) * (c : Int) ≤ 1000000000000 := by rw [← Int.natCast_mul]; omega
          generalize hq : (inf.bytes : Int) * (c : Int) = q at hp ⊢
          have hc1 : (decide ((c : Int) < 0) || decide (q > 2 ^ 48)) = false := by
            rw [Bool.or_eq_false_iff, decide_eq_false_iff_not, decide_eq_false_iff_not]
            exact ⟨by omega, by omega⟩
          have hc2 : decide ((i : Int) < 0) = false := decide_eq_false_iff_not.2 (by omega)
          have hc3 : decide ((i : Int) > (c : Int)) = false := decide_eq_false_iff_not.2 (by omega)
          have hc4 : ¬ (((decide ((c : Int) < 0) || decide (q > 2 ^ 48)) = true ∨ (i : Int) < 0) ∨ (i : Int) > (c : Int)) := by
            rw [hc1]; rintro ((h | h) | h)
            · cases h
            · omega
            · omega
          rw [if_neg (by first | exact hc4 | (simp only [Bool.or_eq_true, decide_eq_true_eq]; omega))]
          have hlen : (repl z.cells.toList c).toArray = (Array.range (c * size)).map fun i => z.cells[i % z.cells.size]! := by rw [← h4]; exact (zeros_eq z c).symm
          simp only [run_askRoom, Result.andThen_ok, Int.toNat_natCast, Sem.run_bind, run_sizeOf hs]
          by_cases h0 : c * size = 0
          · simp only [h0, if_true, Sem.run_pure, Result.andThen_ok, run_newRow]
            rw [hlen, h0]
            have e : ∀ f : Nat → Value, Array.map f (Array.range 0) = #[] := fun f => by apply Array.ext'; simp
            rw [e]
            first | rfl | (rw [e]; rfl) | (simp only [e]; rfl) | skip
          · simp only [h0, if_false, Sem.run_bind, run_zeroValue hz, Sem.run_pure, Result.andThen_ok, run_newRow]
            rw [hlen]
        rw [Sem.run_bind, hrun, Result.andThen_ok]
        have hlen : (repl z.cells.toList c).length = c * size := by rw [repl_length, ← h4]; simp
        refine Fits.newRow hw hn (by simp) (by simpa using (flat_cells hf).repl c) fun ρ' h' => ?_
        simpa using VR.sl (ρ := ρ') n 0 i c c _ h' (.inl rfl)
      · cases h
    · cases h
  · cases h
end
end Go.Proofs.YtdbjloigfkckfaaGreatDoor.Vm
