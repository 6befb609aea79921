/- Sorted bytes: two alike stand side by side just where some byte is there twice. -/
import Derived.Test.YtnlkkgpcikkpoaaSrp
import Derived.Sort.AssemblyPlain
namespace Go.Proofs.Ytnlkkgpcikkpoaa
open Go Vm Go.RowKit
theorem swoB : Sort.SWO ltB where
  irrefl x := by unfold ltB; exact decide_eq_false (UInt8.lt_irrefl x)
  trans x y z h1 h2 := by unfold ltB at *; exact decide_eq_true (UInt8.lt_trans (of_decide_eq_true h1) (of_decide_eq_true h2))
  ntrans x y z h1 h2 := by
    unfold ltB at *
    have h1 := of_decide_eq_false h1; have h2 := of_decide_eq_false h2
    refine decide_eq_false fun h => ?_
    rw [UInt8.lt_iff_toNat_lt] at *
    omega
noncomputable def unl (d : Array UInt8) : Bool := @decide (d.toList.Nodup) (Classical.propDecidable _)
theorem unl_iff {d : Array UInt8} : unl d = true ↔ d.toList.Nodup := by unfold unl; exact @decide_eq_true_iff _ (Classical.propDecidable _)
theorem nodup_arr {d : Array UInt8} : d.toList.Nodup ↔ ∀ i j, i < j → j < d.size → d[i]! ≠ d[j]! := by
  unfold List.Nodup
  rw [List.pairwise_iff_getElem]
  constructor
  · intro h i j hij hj
    have := h i j (by simpa using Nat.lt_trans hij hj) (by simpa using hj) hij
    rw [getElem!_pos d i (Nat.lt_trans hij hj), getElem!_pos d j hj]
    simpa using this
  · intro h i j hi hj hij
    have hi' : i < d.size := by simpa using hi
    have hj' : j < d.size := by simpa using hj
    have := h i j hij hj'
    rw [getElem!_pos d i hi', getElem!_pos d j hj'] at this
    simpa using this
theorem sort_size (d : Array UInt8) : (Sort.sort ltB d).size = d.size := (Sort.sort_sorts ltB swoB d).1.1
theorem sort_adj (d : Array UInt8) : unl d = true ↔ ∀ k, 1 ≤ k → k < (Sort.sort ltB d).size → (Sort.sort ltB d)[k]! ≠ (Sort.sort ltB d)[k - 1]! := by
  obtain ⟨⟨h1, _, h3⟩, h2⟩ := Sort.sort_sorts ltB swoB d
  generalize Sort.sort ltB d = s at *
  have hp : s.toList.Perm d.toList := by
    have e1 : s.extract 0 d.size = s := by rw [← h1]; simp
    have e2 : d.extract 0 d.size = d := by simp
    rw [e1, e2] at h3
    exact h3
  rw [unl_iff, ← hp.nodup_iff, nodup_arr]
  have hle : ∀ i j, i ≤ j → j < s.size → s[i]!.toNat ≤ s[j]!.toNat := fun i j hij hj => by
    by_cases e : i = j
    · subst e; exact Nat.le_refl _
    · have := h2 i j (Nat.zero_le _) (by omega) (by omega)
      unfold ltB at this
      have := of_decide_eq_false this
      rw [UInt8.lt_iff_toNat_lt] at this
      omega
  constructor
  · intro h k hk hks e
    exact h (k - 1) k (by omega) hks e.symm
  · intro h i j hij hj e
    have a1 := hle i (j - 1) (by omega) (by omega)
    have a2 := hle (j - 1) j (by omega) hj
    have a3 := h j (by omega) hj
    rw [e] at a1
    exact a3 (UInt8.toNat_inj.1 (by omega))
end Go.Proofs.Ytnlkkgpcikkpoaa
