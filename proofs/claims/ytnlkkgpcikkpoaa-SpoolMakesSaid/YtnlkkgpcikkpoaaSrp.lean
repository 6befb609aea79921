/- A row of bytes as an array: a swap in the row is a swap in the array. -/
import Derived.Test.YtnlkkgpcikkpoaaVd
import Derived.Sort.Defs
namespace Go.Proofs.Ytnlkkgpcikkpoaa
open Go Vm Go.RowKit
def ltB (x y : UInt8) : Bool := decide (x < y)
abbrev arB (d : Array UInt8) : ByteArray := ⟨d⟩
theorem arB_size (d : Array UInt8) : (arB d).size = d.size := rfl
theorem swp_size (d : Array UInt8) (i j : Nat) : (Sort.swp d i j).size = d.size := by unfold Sort.swp; simp
theorem int_arB {d : Array UInt8} {i : Nat} (h : i < d.size) : intAt (bytesC (arB d)) i = (d[i]!.toNat : Int) := by
  rw [intAt_bytes (b := arB d) h, getElem!_pos d i h]; rfl
theorem lt_arB {d : Array UInt8} {p q i j : Nat} (hp : p = i) (hq : q = j) (hi : i < d.size) (hj : j < d.size) : decide (intAt (bytesC (arB d)) p < intAt (bytesC (arB d)) q) = ltB d[i]! d[j]! := by
  subst hp; subst hq
  rw [int_arB hi, int_arB hj]
  unfold ltB
  apply decide_eq_decide.2
  rw [UInt8.lt_iff_toNat_lt]; omega
theorem bytesC_get (d : Array UInt8) (k : Nat) : (bytesC (arB d))[k]? = (d[k]?).map fun x => .int .u8 (x.toNat : Int) := by
  unfold bytesC; simp [arB]
theorem spl_arB {d : Array UInt8} {p q p' q' i j : Nat} (hp : p = i) (hq : q = j) (hp' : p' = i) (hq' : q' = j) (hi : i < d.size) (hj : j < d.size) :
    splice (splice (bytesC (arB d)) p [.int .u8 (intAt (bytesC (arB d)) q)]) q' [.int .u8 (intAt (bytesC (arB d)) p')] = bytesC (arB (Sort.swp d i j)) := by
  subst hp; subst hq; subst hp'; subst hq'
  have hl : (bytesC (arB d)).length = d.size := bytesC_length _
  have e1 : p' + [Value.int IntKind.u8 (intAt (bytesC (arB d)) q')].length ≤ (bytesC (arB d)).length := by rw [hl]; show p' + 1 ≤ d.size; omega
  have e2 : q' + [Value.int IntKind.u8 (intAt (bytesC (arB d)) p')].length ≤ (splice (bytesC (arB d)) p' [Value.int IntKind.u8 (intAt (bytesC (arB d)) q')]).length := by
    rw [splice_length e1, hl]; show q' + 1 ≤ d.size; omega
  refine List.ext_getElem? fun k => ?_
  rw [splice_get e2, splice_get e1, bytesC_get, bytesC_get, int_arB hi, int_arB hj]
  unfold Sort.swp
  simp only [List.length_singleton, Array.getElem?_setIfInBounds, Array.size_setIfInBounds]
  by_cases h1 : k = q'
  · subst h1
    rw [if_pos (by omega), if_pos rfl, if_pos hj]; simp
  · rw [if_neg (fun h : q' ≤ k ∧ k < q' + 1 => h1 (by omega)), if_neg (fun h : q' = k => h1 h.symm)]
    by_cases h2 : k = p'
    · subst h2
      rw [if_pos (by omega), if_pos rfl, if_pos hi]; simp
    · rw [if_neg (fun h : p' ≤ k ∧ k < p' + 1 => h2 (by omega)), if_neg (fun h : p' = k => h2 h.symm)]
theorem ia_arB {d : Array UInt8} {p : Nat} (h : p < d.size) : isIntAt IntKind.u8 (bytesC (arB d)) p = true := isIntAt_bytes h
theorem ls_arB {d : Array UInt8} {p q : Nat} {v : Value} (h : p < d.size) (hq : q < d.size) : Nat.ble (p + 1) (List.length (splice (bytesC (arB d)) q [v])) = true := by
  rw [splice_length (by rw [bytesC_length]; show q + 1 ≤ d.size; omega), bytesC_length]
  exact Nat.ble_eq_true_of_le (by show p + 1 ≤ d.size; omega)
abbrev rowA (d : Array UInt8) : VObj := .cells (bytesC (arB d)) 5 false
abbrev slA (n : Nat) : Value := .slice (some ⟨0, 0, none⟩) n n
abbrev iA (n : Nat) : Value := .int .i64 (n : Int)
theorem w64 {x : Int} (h0 : -1000000 ≤ x) (h1 : x ≤ 1000000) : IntKind.wrap IntKind.i64 x = x := wrap_nat (by omega) (by omega)
end Go.Proofs.Ytnlkkgpcikkpoaa
