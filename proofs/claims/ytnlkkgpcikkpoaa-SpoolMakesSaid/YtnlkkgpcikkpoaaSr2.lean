/- The sort of bytes: choosePivot computes what Derived.Sort.Defs says. -/
import Derived.Test.YtnlkkgpcikkpoaaSr1
import Derived.Test.YtnlkkgpcikkpoaaSrx
import Derived.Test.YtnlkkgpcikkpoaaSoh
import Derived.KernelRfl
namespace Go.Proofs.Ytnlkkgpcikkpoaa
open Go Vm Go.RowKit
set_option maxRecDepth 100000
def hintI : Sort.Hint → Int
  | .unknown => 0
  | .increasing => 1
  | .decreasing => 2
theorem medAdj_lt {d : Array UInt8} {a n s : Nat} (h1 : 1 ≤ a) (h : a + 1 < n) : (Sort.medianAdjacent ltB d a s).1 < n ∧ (Sort.medianAdjacent ltB d a s).2 ≤ s + 3 := median_lt (by omega) (by omega) (by omega)
theorem cp_fn (d : Array UInt8) (n a z : Nat) (hd : d.size = n) (hn : n ≤ 10000) (hz : z ≤ n) (ha : a + 12 < z) :
    FnT Try.prog 39 [slA n, iA a, iA z] [rowA d] fun r o => r = .ret (.tuple #[iA (Sort.choosePivot ltB d a z).1, .int .i64 (hintI (Sort.choosePivot ltB d a z).2)]) ∧ o = [rowA d] := by
  refine FnT.ofT (n := slotsC Try.prog 39) (by kernel_rfl) ?_
  have hsz : n ≤ (arB d).size := by rw [arB_size]; omega
  have hbl : (bytesC (arB d)).length = n := by rw [bytesC_length]; exact hd
  have ez : IntKind.wrap IntKind.i64 ((z : Int) - a) = ((z - a : Nat) : Int) := by rw [w64 (by omega) (by omega)]; omega
  rw [Sort.choosePivot_eq]
  -- the end
  have last : ∀ p : Nat × Nat, Sort.rawPivot ltB d a z = p → TriL Try.prog 57 1 (Lslices_choosePivotOrdered_byte_.drop 8) ⟨[(9, pt1), (11, iA p.1)], [rowA d, swA p.2]⟩
      (FinT Try.prog 39 57 1 fun r o => r = .ret (.tuple #[iA (Sort.rawPivot ltB d a z).1, .int .i64 (hintI (Sort.hintOf (Sort.rawPivot ltB d a z).2))]) ∧ o = [rowA d]) := by
    intro p hp
    rw [hp]
    apply cp_z (arB d) n p.1 p.2 hsz
    case pl0 => simp
    case l1 =>
      intro g
      have g : p.2 = 0 := by have := eq_of_beq g; omega
      refine cp_z_r0 (arB d) n p.1 p.2 (by simp) ⟨?_, rfl⟩
      rw [g]; rfl
    case l2 =>
      intro g g2
      have g2 : p.2 = 12 := by have := eq_of_beq g2; omega
      refine cp_z_r1 (arB d) n p.1 p.2 (by simp) ⟨?_, rfl⟩
      rw [g2]; rfl
    case l3 =>
      intro g g2
      have g : p.2 ≠ 0 := fun h => by rw [h] at g; cases g
      have g2 : p.2 ≠ 12 := fun h => by rw [h] at g2; cases g2
      refine cp_z_r2 (arB d) n p.1 p.2 (by simp) ⟨?_, rfl⟩
      have : Sort.hintOf p.2 = .unknown := by
        unfold Sort.hintOf
        split
        · exact absurd (by assumption) g
        · first | rfl | (split; · exact absurd (by assumption) g2
                         · rfl)
      rw [this]; rfl
  apply cp_a (arB d) n a z hsz
  case pl0 => simp
  case l1 =>
    have q : ∀ k : Nat, k ≤ 3 → IntKind.wrap IntKind.i64 ((a : Int) + IntKind.wrap IntKind.i64 (IntKind.wrap IntKind.i64 (Int.tdiv (((z - a : Nat) : Int)) 4) * (k : Int))) = ((a + (z - a) / 4 * k : Nat) : Int) := fun k hk => by
      rw [show Int.tdiv (((z - a : Nat) : Int)) 4 = (((z - a) / 4 : Nat) : Int) from rfl, w64 (x := (((z - a) / 4 : Nat) : Int)) (by omega) (by omega)]
      have h1 : (((z - a) / 4 : Nat) : Int) * (k : Int) = (((z - a) / 4 * k : Nat) : Int) := by rw [Int.natCast_mul]
      have h2 : (z - a) / 4 * k ≤ (z - a) / 4 * 3 := Nat.mul_le_mul_left _ hk
      rw [h1]
      generalize (z - a) / 4 * k = m at h2
      rw [w64 (x := (m : Int)) (by omega) (by omega), w64 (by omega) (by omega)]; omega
    have e : cp_a_d0 (arB d) n a z = ⟨[(0, slA n), (8, iA (z - a)), (9, pt1), (10, iA (a + (z - a) / 4 * 1)), (11, iA (a + (z - a) / 4 * 2)), (12, iA (a + (z - a) / 4 * 3)), (32, .bool true)], [rowA d, swA 0]⟩ := by
      unfold cp_a_d0
      have q1 := q 1 (by omega); have q2 := q 2 (by omega); have q3 := q 3 (by omega)
      simp only [Int.natCast_one, Int.cast_ofNat_Int] at q1 q2 q3
      rw [ez, decide_eq_true (by omega), q1, q2, q3]
      rfl
    rw [e]
    refine TriL.condAt 7 (c := 32) (b := true) (by kernel_rfl) (by rfl) (by rfl) ?_
    refine TriL.app ?_
    by_cases h50 : z - a ≥ 50
    · have hraw : ∀ p, (Sort.median ltB d (Sort.medianAdjacent ltB d (a + (z - a) / 4 * 1) 0).1 (Sort.medianAdjacent ltB d (a + (z - a) / 4 * 2) (Sort.medianAdjacent ltB d (a + (z - a) / 4 * 1) 0).2).1 (Sort.medianAdjacent ltB d (a + (z - a) / 4 * 3) (Sort.medianAdjacent ltB d (a + (z - a) / 4 * 2) (Sort.medianAdjacent ltB d (a + (z - a) / 4 * 1) 0).2).2).1 (Sort.medianAdjacent ltB d (a + (z - a) / 4 * 3) (Sort.medianAdjacent ltB d (a + (z - a) / 4 * 2) (Sort.medianAdjacent ltB d (a + (z - a) / 4 * 1) 0).2).2).2) = p → Sort.rawPivot ltB d a z = p := fun p hp => by
        rw [← hp]; unfold Sort.rawPivot; rw [if_pos (by omega), if_pos h50]
      have k1 := medAdj_lt (d := d) (n := n) (a := a + (z - a) / 4 * 1) (s := 0) (by omega) (by omega)
      have k2 := medAdj_lt (d := d) (n := n) (a := a + (z - a) / 4 * 2) (s := (Sort.medianAdjacent ltB d (a + (z - a) / 4 * 1) 0).2) (by omega) (by omega)
      have k3 := medAdj_lt (d := d) (n := n) (a := a + (z - a) / 4 * 3) (s := (Sort.medianAdjacent ltB d (a + (z - a) / 4 * 2) (Sort.medianAdjacent ltB d (a + (z - a) / 4 * 1) 0).2).2) (by omega) (by omega)
      apply cp_b (arB d) n (z - a : Nat) (a + (z - a) / 4 * 1 : Nat) (a + (z - a) / 4 * 2 : Nat) (a + (z - a) / 4 * 3 : Nat) (0 : Nat) hsz (decide_eq_true (by omega))
      case n0 => exact okA_arB ⟨rfl, rfl, rfl, hbl, hn, by omega, by omega, by omega, by omega⟩
      case n1 => simp only [arrOf_bytes, Int.toNat_natCast, lock_eq, true_and]; exact okA_arB ⟨hbl, hn, by omega, by omega, by omega, by omega⟩
      case n2 => simp only [arrOf_bytes, Int.toNat_natCast, lock_eq, true_and]; exact okA_arB ⟨hbl, hn, by omega, by omega, by omega, by omega⟩
      case n3 => simp only [arrOf_bytes, Int.toNat_natCast, lock_eq, true_and]; exact okA_arB ⟨hbl, hn, by omega, by omega, by omega, by omega, by omega, by omega, by omega, by omega⟩
      case pl0 => simp
      case l5 =>
        refine (?_ : TriL Try.prog 57 1 (Lslices_choosePivotOrdered_byte_.drop (7 + 1)) _ _)
        have e2 : ∀ l i j c s : Nat, cp_b_d0 (arB d) n l i j c s = ⟨[(9, pt1), (11, iA (Sort.median ltB d (Sort.medianAdjacent ltB d i s).1 (Sort.medianAdjacent ltB d j (Sort.medianAdjacent ltB d i s).2).1 (Sort.medianAdjacent ltB d c (Sort.medianAdjacent ltB d j (Sort.medianAdjacent ltB d i s).2).2).1 (Sort.medianAdjacent ltB d c (Sort.medianAdjacent ltB d j (Sort.medianAdjacent ltB d i s).2).2).2).1)],
            [rowA d, swA (Sort.median ltB d (Sort.medianAdjacent ltB d i s).1 (Sort.medianAdjacent ltB d j (Sort.medianAdjacent ltB d i s).2).1 (Sort.medianAdjacent ltB d c (Sort.medianAdjacent ltB d j (Sort.medianAdjacent ltB d i s).2).2).1 (Sort.medianAdjacent ltB d c (Sort.medianAdjacent ltB d j (Sort.medianAdjacent ltB d i s).2).2).2).2]⟩ := fun l i j c s => by
          unfold cp_b_d0; simp only [arrOf_bytes, Int.toNat_natCast, lock_eq]
        rw [e2]
        exact last _ (hraw _ rfl)
    · have hraw : ∀ p, Sort.median ltB d (a + (z - a) / 4 * 1) (a + (z - a) / 4 * 2) (a + (z - a) / 4 * 3) 0 = p → Sort.rawPivot ltB d a z = p := fun p hp => by
        rw [← hp]; unfold Sort.rawPivot; rw [if_pos (by omega), if_neg h50]
      apply cp_c (arB d) n (z - a : Nat) (a + (z - a) / 4 * 1 : Nat) (a + (z - a) / 4 * 2 : Nat) (a + (z - a) / 4 * 3 : Nat) (0 : Nat) hsz (decide_eq_false (by omega))
      case n0 => exact okA_arB ⟨rfl, rfl, rfl, hbl, hn, by omega, by omega, by omega, by omega, by omega, by omega, by omega, by omega⟩
      case pl0 => simp
      case l2 =>
        refine (?_ : TriL Try.prog 57 1 (Lslices_choosePivotOrdered_byte_.drop (7 + 1)) _ _)
        have e2 : ∀ l i j c s : Nat, cp_c_d0 (arB d) n l i j c s = ⟨[(9, pt1), (11, iA (Sort.median ltB d i j c s).1)], [rowA d, swA (Sort.median ltB d i j c s).2]⟩ := fun l i j c s => by
          unfold cp_c_d0; simp only [arrOf_bytes, Int.toNat_natCast, lock_eq]
        rw [e2]
        exact last _ (hraw _ rfl)
end Go.Proofs.Ytnlkkgpcikkpoaa
