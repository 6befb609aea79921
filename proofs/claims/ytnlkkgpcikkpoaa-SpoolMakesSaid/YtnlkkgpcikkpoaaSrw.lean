/- The sort of bytes: the two partitions compute what Derived.Sort.Defs says. -/
import Derived.Test.YtnlkkgpcikkpoaaSru
import Derived.Test.YtnlkkgpcikkpoaaSob
import Derived.Sort.LotC
import Derived.KernelRfl
namespace Go.Proofs.Ytnlkkgpcikkpoaa
open Go Vm Go.RowKit
set_option maxRecDepth 100000
theorem scanUp_if (p : UInt8 → Bool) (d : Array UInt8) (j i : Nat) : Sort.scanUp p d j i = if i ≤ j ∧ p d[i]! = true then Sort.scanUp p d j (i + 1) else i := by
  rw [Sort.scanUp]; simp
theorem scanDown_if (p : UInt8 → Bool) (d : Array UInt8) (i j : Nat) (hi : 1 ≤ i) : Sort.scanDown p d i j = if i ≤ j ∧ p d[j]! = true then Sort.scanDown p d i (j - 1) else j := by
  cases j with
  | zero => rw [if_neg (by omega)]; rfl
  | succ j => rw [Sort.scanDown]; simp
def ptI (n a i j : Nat) (d : Array UInt8) : Desc := ⟨[(0, slA n), (1, iA a), (10, iA i), (11, iA j)], [rowA d]⟩
def peI (n a i j : Nat) (d : Array UInt8) : Desc := ⟨[(0, slA n), (1, iA a), (9, iA i), (10, iA j)], [rowA d]⟩
theorem pt_up {Q : VEx → Desc → Prop} (d : Array UInt8) (n a i0 j : Nat) (hd : d.size = n) (hn : n ≤ 10000) (ha : a < n) (hj : j < n) (hi : i0 ≤ n) (h : Q (.exit 0) (ptI n a (Sort.scanUp (fun x => ltB x d[a]!) d j i0) j d)) :
    TriL Try.prog 168 1 (flat2 (inner (Lslices_partitionOrdered_byte_.drop 3))) (ptI n a i0 j d) Q := by
  refine TriL.loopAt (fun i => ptI n a i j d) (fun i => j + 1 - i) (fun i => i ≤ n ∧ Sort.scanUp (fun x => ltB x d[a]!) d j i = Sort.scanUp (fun x => ltB x d[a]!) d j i0) i0 (by kernel_rfl) ⟨hi, rfl⟩ ?_
  rintro i ⟨h1, h2⟩
  have hsz : n ≤ (arB d).size := by rw [arB_size]; omega
  by_cases hij : i ≤ j
  · apply pt_u (arB d) n a i j hsz (by simp; omega) (by omega) (by omega) (by omega) (by omega)
    case n0 => rw [atN]; exact ia_arB (by omega)
    case n1 => rw [atN]; exact ia_arB (by omega)
    case pl0 => simp
    case l3 =>
      intro g
      rw [lt_arB atN atN (by omega) (by omega)] at g
      apply pt_ui (arB d) n a i j hsz (w64 (by omega) (by omega))
      case pl0 => simp
      case l1 =>
        refine QL.to (i + 1) ⟨by omega, ?_⟩ (by omega) (by unfold pt_ui_d0 ptI; rw [iA_add1 (by omega)])
        rw [← h2, scanUp_if _ d j i, if_pos ⟨hij, g⟩]
    case l4 =>
      intro g
      rw [lt_arB atN atN (by omega) (by omega)] at g
      rw [← h2, scanUp_if, if_neg (fun x => by have := x.2; rw [g] at this; cases this)] at h
      repeat (first | with_reducible refine QL.ret ?_ | with_reducible refine QL.exit ?_ | with_reducible refine QB.ret ?_ | with_reducible refine QB.hit ?_ | with_reducible refine QB.normal ?_ | with_reducible refine QB.miss (by rfl) ?_)
      exact h
  · apply pt_uf (arB d) n a i j hsz (by simp; omega)
    case pl0 => simp
    case l1 =>
      rw [← h2, scanUp_if, if_neg (fun x => hij x.1)] at h
      repeat (first | with_reducible refine QL.ret ?_ | with_reducible refine QL.exit ?_ | with_reducible refine QB.ret ?_ | with_reducible refine QB.hit ?_ | with_reducible refine QB.normal ?_ | with_reducible refine QB.miss (by rfl) ?_)
      exact h
theorem pt_down {Q : VEx → Desc → Prop} (d : Array UInt8) (n a i j0 : Nat) (hd : d.size = n) (hn : n ≤ 10000) (ha : a < n) (hj : j0 < n) (hi : 1 ≤ i) (h : Q (.exit 2) (ptI n a i (Sort.scanDown (fun x => !ltB x d[a]!) d i j0) d)) :
    TriL Try.prog 168 1 (flat2 (inner (Lslices_partitionOrdered_byte_.drop 4))) (ptI n a i j0 d) Q := by
  refine TriL.loopAt (fun j => ptI n a i j d) (fun j => j) (fun j => j < n ∧ Sort.scanDown (fun x => !ltB x d[a]!) d i j = Sort.scanDown (fun x => !ltB x d[a]!) d i j0) j0 (by kernel_rfl) ⟨hj, rfl⟩ ?_
  rintro j ⟨h1, h2⟩
  have hsz : n ≤ (arB d).size := by rw [arB_size]; omega
  by_cases hij : i ≤ j
  · apply pt_d (arB d) n a i j hsz (by simp; omega) (by omega) (by omega) (by omega) (by omega)
    case n0 => rw [atN]; exact ia_arB (by omega)
    case n1 => rw [atN]; exact ia_arB (by omega)
    case pl0 => simp
    case l3 =>
      intro g
      rw [lt_arB atN atN (by omega) (by omega)] at g
      apply pt_dd (arB d) n a i j hsz (w64 (by omega) (by omega))
      case pl0 => simp
      case l1 =>
        refine QL.to (j - 1) ⟨by omega, ?_⟩ (by omega) (by unfold pt_dd_d0 ptI; rw [iA_sub1 (by omega) (by omega)])
        rw [← h2, scanDown_if _ d i j hi, if_pos ⟨hij, g⟩]
    case l4 =>
      intro g
      rw [lt_arB atN atN (by omega) (by omega)] at g
      rw [← h2, scanDown_if _ d i j hi, if_neg (fun x => by have := x.2; rw [g] at this; cases this)] at h
      repeat (first | with_reducible refine QL.ret ?_ | with_reducible refine QL.exit ?_ | with_reducible refine QB.ret ?_ | with_reducible refine QB.hit ?_ | with_reducible refine QB.normal ?_ | with_reducible refine QB.miss (by rfl) ?_)
      exact h
  · apply pt_df (arB d) n a i j hsz (by simp; omega)
    case pl0 => simp
    case l1 =>
      rw [← h2, scanDown_if _ d i j hi, if_neg (fun x => hij x.1)] at h
      repeat (first | with_reducible refine QL.ret ?_ | with_reducible refine QL.exit ?_ | with_reducible refine QB.ret ?_ | with_reducible refine QB.hit ?_ | with_reducible refine QB.normal ?_ | with_reducible refine QB.miss (by rfl) ?_)
      exact h
theorem pl_up {Q : VEx → Desc → Prop} (d : Array UInt8) (n a i0 j : Nat) (hd : d.size = n) (hn : n ≤ 10000) (ha : a < n) (hj : j < n) (hi : i0 ≤ n) (h : Q (.exit 6) (ptI n a (Sort.scanUp (fun x => ltB x d[a]!) d j i0) j d)) :
    TriL Try.prog 168 1 (flat2 (inner (flat2 (inner (flat2 (inner (flat2 (inner (Lslices_partitionOrdered_byte_.drop 10))))))))) (ptI n a i0 j d) Q := by
  refine TriL.loopAt (fun i => ptI n a i j d) (fun i => j + 1 - i) (fun i => i ≤ n ∧ Sort.scanUp (fun x => ltB x d[a]!) d j i = Sort.scanUp (fun x => ltB x d[a]!) d j i0) i0 (by kernel_rfl) ⟨hi, rfl⟩ ?_
  rintro i ⟨h1, h2⟩
  have hsz : n ≤ (arB d).size := by rw [arB_size]; omega
  by_cases hij : i ≤ j
  · apply pl_u (arB d) n a i j hsz (by simp; omega) (by omega) (by omega) (by omega) (by omega)
    case n0 => rw [atN]; exact ia_arB (by omega)
    case n1 => rw [atN]; exact ia_arB (by omega)
    case pl0 => simp
    case l3 =>
      intro g
      rw [lt_arB atN atN (by omega) (by omega)] at g
      apply pl_ui (arB d) n a i j hsz (w64 (by omega) (by omega))
      case pl0 => simp
      case l1 =>
        refine QL.to (i + 1) ⟨by omega, ?_⟩ (by omega) (by unfold pl_ui_d0 ptI; rw [iA_add1 (by omega)])
        rw [← h2, scanUp_if _ d j i, if_pos ⟨hij, g⟩]
    case l4 =>
      intro g
      rw [lt_arB atN atN (by omega) (by omega)] at g
      rw [← h2, scanUp_if, if_neg (fun x => by have := x.2; rw [g] at this; cases this)] at h
      repeat (first | with_reducible refine QL.ret ?_ | with_reducible refine QL.exit ?_ | with_reducible refine QB.ret ?_ | with_reducible refine QB.hit ?_ | with_reducible refine QB.normal ?_ | with_reducible refine QB.miss (by rfl) ?_)
      exact h
  · apply pl_uf (arB d) n a i j hsz (by simp; omega)
    case pl0 => simp
    case l1 =>
      rw [← h2, scanUp_if, if_neg (fun x => hij x.1)] at h
      repeat (first | with_reducible refine QL.ret ?_ | with_reducible refine QL.exit ?_ | with_reducible refine QB.ret ?_ | with_reducible refine QB.hit ?_ | with_reducible refine QB.normal ?_ | with_reducible refine QB.miss (by rfl) ?_)
      exact h
theorem pl_down {Q : VEx → Desc → Prop} (d : Array UInt8) (n a i j0 : Nat) (hd : d.size = n) (hn : n ≤ 10000) (ha : a < n) (hj : j0 < n) (hi : 1 ≤ i) (h : Q (.exit 8) (ptI n a i (Sort.scanDown (fun x => !ltB x d[a]!) d i j0) d)) :
    TriL Try.prog 168 1 (flat2 (inner ((flat2 (inner (flat2 (inner (flat2 (inner (Lslices_partitionOrdered_byte_.drop 10))))))).drop 1))) (ptI n a i j0 d) Q := by
  refine TriL.loopAt (fun j => ptI n a i j d) (fun j => j) (fun j => j < n ∧ Sort.scanDown (fun x => !ltB x d[a]!) d i j = Sort.scanDown (fun x => !ltB x d[a]!) d i j0) j0 (by kernel_rfl) ⟨hj, rfl⟩ ?_
  rintro j ⟨h1, h2⟩
  have hsz : n ≤ (arB d).size := by rw [arB_size]; omega
  by_cases hij : i ≤ j
  · apply pl_d (arB d) n a i j hsz (by simp; omega) (by omega) (by omega) (by omega) (by omega)
    case n0 => rw [atN]; exact ia_arB (by omega)
    case n1 => rw [atN]; exact ia_arB (by omega)
    case pl0 => simp
    case l3 =>
      intro g
      rw [lt_arB atN atN (by omega) (by omega)] at g
      apply pl_dd (arB d) n a i j hsz (w64 (by omega) (by omega))
      case pl0 => simp
      case l1 =>
        refine QL.to (j - 1) ⟨by omega, ?_⟩ (by omega) (by unfold pl_dd_d0 ptI; rw [iA_sub1 (by omega) (by omega)])
        rw [← h2, scanDown_if _ d i j hi, if_pos ⟨hij, g⟩]
    case l4 =>
      intro g
      rw [lt_arB atN atN (by omega) (by omega)] at g
      rw [← h2, scanDown_if _ d i j hi, if_neg (fun x => by have := x.2; rw [g] at this; cases this)] at h
      repeat (first | with_reducible refine QL.ret ?_ | with_reducible refine QL.exit ?_ | with_reducible refine QB.ret ?_ | with_reducible refine QB.hit ?_ | with_reducible refine QB.normal ?_ | with_reducible refine QB.miss (by rfl) ?_)
      exact h
  · apply pl_df (arB d) n a i j hsz (by simp; omega)
    case pl0 => simp
    case l1 =>
      rw [← h2, scanDown_if _ d i j hi, if_neg (fun x => hij x.1)] at h
      repeat (first | with_reducible refine QL.ret ?_ | with_reducible refine QL.exit ?_ | with_reducible refine QB.ret ?_ | with_reducible refine QB.hit ?_ | with_reducible refine QB.normal ?_ | with_reducible refine QB.miss (by rfl) ?_)
      exact h
theorem pe_up {Q : VEx → Desc → Prop} (d : Array UInt8) (n a i0 j : Nat) (hd : d.size = n) (hn : n ≤ 10000) (ha : a < n) (hj : j < n) (hi : i0 ≤ n) (h : Q (.exit 2) (peI n a (Sort.scanUp (fun x => !ltB d[a]! x) d j i0) j d)) :
    TriL Try.prog 84 1 (flat2 (inner (flat2 (inner (flat2 (inner (flat2 (inner (Lslices_partitionEqualOrdered_byte_.drop 3))))))))) (peI n a i0 j d) Q := by
  refine TriL.loopAt (fun i => peI n a i j d) (fun i => j + 1 - i) (fun i => i ≤ n ∧ Sort.scanUp (fun x => !ltB d[a]! x) d j i = Sort.scanUp (fun x => !ltB d[a]! x) d j i0) i0 (by kernel_rfl) ⟨hi, rfl⟩ ?_
  rintro i ⟨h1, h2⟩
  have hsz : n ≤ (arB d).size := by rw [arB_size]; omega
  by_cases hij : i ≤ j
  · apply pe_u (arB d) n a i j hsz (by simp; omega) (by omega) (by omega) (by omega) (by omega)
    case n0 => rw [atN]; exact ia_arB (by omega)
    case n1 => rw [atN]; exact ia_arB (by omega)
    case pl0 => simp
    case l3 =>
      intro g
      rw [lt_arB atN atN (by omega) (by omega)] at g
      apply pe_ui (arB d) n a i j hsz (w64 (by omega) (by omega))
      case pl0 => simp
      case l1 =>
        refine QL.to (i + 1) ⟨by omega, ?_⟩ (by omega) (by unfold pe_ui_d0 peI; rw [iA_add1 (by omega)])
        rw [← h2, scanUp_if _ d j i, if_pos ⟨hij, g⟩]
    case l4 =>
      intro g
      rw [lt_arB atN atN (by omega) (by omega)] at g
      rw [← h2, scanUp_if, if_neg (fun x => by have := x.2; rw [g] at this; cases this)] at h
      repeat (first | with_reducible refine QL.ret ?_ | with_reducible refine QL.exit ?_ | with_reducible refine QB.ret ?_ | with_reducible refine QB.hit ?_ | with_reducible refine QB.normal ?_ | with_reducible refine QB.miss (by rfl) ?_)
      exact h
  · apply pe_uf (arB d) n a i j hsz (by simp; omega)
    case pl0 => simp
    case l1 =>
      rw [← h2, scanUp_if, if_neg (fun x => hij x.1)] at h
      repeat (first | with_reducible refine QL.ret ?_ | with_reducible refine QL.exit ?_ | with_reducible refine QB.ret ?_ | with_reducible refine QB.hit ?_ | with_reducible refine QB.normal ?_ | with_reducible refine QB.miss (by rfl) ?_)
      exact h
theorem pe_down {Q : VEx → Desc → Prop} (d : Array UInt8) (n a i j0 : Nat) (hd : d.size = n) (hn : n ≤ 10000) (ha : a < n) (hj : j0 < n) (hi : 1 ≤ i) (h : Q (.exit 4) (peI n a i (Sort.scanDown (fun x => ltB d[a]! x) d i j0) d)) :
    TriL Try.prog 84 1 (flat2 (inner ((flat2 (inner (flat2 (inner (flat2 (inner (Lslices_partitionEqualOrdered_byte_.drop 3))))))).drop 1))) (peI n a i j0 d) Q := by
  refine TriL.loopAt (fun j => peI n a i j d) (fun j => j) (fun j => j < n ∧ Sort.scanDown (fun x => ltB d[a]! x) d i j = Sort.scanDown (fun x => ltB d[a]! x) d i j0) j0 (by kernel_rfl) ⟨hj, rfl⟩ ?_
  rintro j ⟨h1, h2⟩
  have hsz : n ≤ (arB d).size := by rw [arB_size]; omega
  by_cases hij : i ≤ j
  · apply pe_d (arB d) n a i j hsz (by simp; omega) (by omega) (by omega) (by omega) (by omega)
    case n0 => rw [atN]; exact ia_arB (by omega)
    case n1 => rw [atN]; exact ia_arB (by omega)
    case pl0 => simp
    case l3 =>
      intro g
      rw [lt_arB atN atN (by omega) (by omega)] at g
      apply pe_dd (arB d) n a i j hsz (w64 (by omega) (by omega))
      case pl0 => simp
      case l1 =>
        refine QL.to (j - 1) ⟨by omega, ?_⟩ (by omega) (by unfold pe_dd_d0 peI; rw [iA_sub1 (by omega) (by omega)])
        rw [← h2, scanDown_if _ d i j hi, if_pos ⟨hij, g⟩]
    case l4 =>
      intro g
      rw [lt_arB atN atN (by omega) (by omega)] at g
      rw [← h2, scanDown_if _ d i j hi, if_neg (fun x => by have := x.2; rw [g] at this; cases this)] at h
      repeat (first | with_reducible refine QL.ret ?_ | with_reducible refine QL.exit ?_ | with_reducible refine QB.ret ?_ | with_reducible refine QB.hit ?_ | with_reducible refine QB.normal ?_ | with_reducible refine QB.miss (by rfl) ?_)
      exact h
  · apply pe_df (arB d) n a i j hsz (by simp; omega)
    case pl0 => simp
    case l1 =>
      rw [← h2, scanDown_if _ d i j hi, if_neg (fun x => hij x.1)] at h
      repeat (first | with_reducible refine QL.ret ?_ | with_reducible refine QL.exit ?_ | with_reducible refine QB.ret ?_ | with_reducible refine QB.hit ?_ | with_reducible refine QB.normal ?_ | with_reducible refine QB.miss (by rfl) ?_)
      exact h
theorem scanUp_le {p : UInt8 → Bool} {d : Array UInt8} {j i n : Nat} (hi : i ≤ n) (hj : j < n) : Sort.scanUp p d j i ≤ n := by
  by_cases h : i ≤ j + 1
  · have := (Sort.scanUp_spec p d j _ i rfl).2.1 h; omega
  · rw [scanUp_if, if_neg (by omega)]; exact hi
theorem TriL.block0 {P : Program} {n k id : Nat} {l : List Code} {d : Desc} {Q : VEx → Desc → Prop} (hl : isBlock l = some id) (h : TriL P n k (flat2 (inner l)) d (QB id (fun d' => TriL P n k (l.drop 1) d' Q) Q)) : TriL P n k l d Q :=
  TriL.block hl (by rw [← List.drop_one]; exact h)
structure ptOk (d : Array UInt8) (n a i0 j0 : Nat) (s : Array UInt8 × Nat × Nat) : Prop where
  h1 : s.1.size = n
  h2 : 1 ≤ s.2.1
  h3 : s.2.1 ≤ n
  h4 : s.2.2 < n
  h5 : Sort.partLoop ltB a s.2.1 s.2.2 s.1 = Sort.partLoop ltB a i0 j0 d
theorem partition_of (d : Array UInt8) (a b p : Nat) {d1 : Array UInt8} {i j : Nat} (h1 : Sort.swp d a p = d1) (h2 : Sort.scanUp (fun x => ltB x d1[a]!) d1 (b - 1) (a + 1) = i) (h3 : Sort.scanDown (fun x => !ltB x d1[a]!) d1 i (b - 1) = j) :
    Sort.partition ltB d a b p = if i > j then (j, true, Sort.swp d1 j a) else ((Sort.partLoop ltB a (i + 1) (j - 1) (Sort.swp d1 i j)).1, false, Sort.swp (Sort.partLoop ltB a (i + 1) (j - 1) (Sort.swp d1 i j)).2 (Sort.partLoop ltB a (i + 1) (j - 1) (Sort.swp d1 i j)).1 a) := by
  subst h1; subst h2; subst h3; rfl
theorem pt_fn (d : Array UInt8) (n a z p : Nat) (hd : d.size = n) (hn : n ≤ 10000) (hz : z ≤ n) (hp : p < z) (ha : a < z) :
    FnT Try.prog 44 [slA n, iA a, iA z, iA p] [rowA d] fun r o => r = .ret (.tuple #[iA (Sort.partition ltB d a z p).1, .bool (Sort.partition ltB d a z p).2.1]) ∧ o = [rowA (Sort.partition ltB d a z p).2.2] := by
  refine FnT.ofT (n := slotsC Try.prog 44) (by kernel_rfl) ?_
  have hsz : n ≤ (arB d).size := by rw [arB_size]; omega
  apply pt_a (arB d) n a z p hsz (by omega) (by omega) (by omega) (by omega) (w64 (by omega) (by omega)) (w64 (by omega) (by omega))
  case n0 => rw [atN]; exact ia_arB (by omega)
  case n1 => rw [atN]; exact ia_arB (by omega)
  case n2 => rw [atN, atN]; exact ls_arB (by omega) (by omega)
  case l3 =>
    have e : pt_a_d0 (arB d) n a z p = ptI n a (a + 1) (z - 1) (Sort.swp d a p) := by
      unfold pt_a_d0 ptI
      rw [spl_arB atN atN atN atN (by omega) (by omega), iA_add1 (by omega), iA_sub1 (by omega) (by omega)]
    rw [e]
    have hs1 : (Sort.swp d a p).size = n := by rw [swp_size]; exact hd
    generalize q1 : Sort.swp d a p = d1 at hs1
    clear hsz
    have hsz : n ≤ (arB d1).size := by rw [arB_size]; omega
    refine TriL.blockAt 3 0 (by kernel_rfl) ?_
    refine pt_up d1 n a (a + 1) (z - 1) hs1 hn (by omega) (by omega) (by omega) ?_
    repeat (first | with_reducible refine QL.ret ?_ | with_reducible refine QL.exit ?_ | with_reducible refine QB.ret ?_ | with_reducible refine QB.hit ?_ | with_reducible refine QB.normal ?_ | with_reducible refine QB.miss (by rfl) ?_)
    have hi2 : Sort.scanUp (fun x => ltB x d1[a]!) d1 (z - 1) (a + 1) ≤ n := scanUp_le (by omega) (by omega)
    have hi1 := Sort.scanUp_ge (fun x => ltB x d1[a]!) d1 (z - 1) (a + 1)
    generalize q2 : Sort.scanUp (fun x => ltB x d1[a]!) d1 (z - 1) (a + 1) = i at hi2 hi1
    refine TriL.blockAt 4 2 (by kernel_rfl) ?_
    refine pt_down d1 n a i (z - 1) hs1 hn (by omega) (by omega) (by omega) ?_
    repeat (first | with_reducible refine QL.ret ?_ | with_reducible refine QL.exit ?_ | with_reducible refine QB.ret ?_ | with_reducible refine QB.hit ?_ | with_reducible refine QB.normal ?_ | with_reducible refine QB.miss (by rfl) ?_)
    have hj2 := Sort.scanDown_le (fun x => !ltB x d1[a]!) d1 i (z - 1)
    generalize q3 : Sort.scanDown (fun x => !ltB x d1[a]!) d1 i (z - 1) = j at hj2
    have hpt := partition_of d a z p q1 q2 q3
    by_cases hij : i > j
    · apply pt_f (arB d1) n a i j hsz (by simp; omega) (by omega) (by omega) (by omega) (by omega)
      case n0 => rw [atN]; exact ia_arB (by omega)
      case n1 => rw [atN]; exact ia_arB (by omega)
      case n2 => rw [atN, atN]; exact ls_arB (by omega) (by omega)
      case l3 =>
        refine pt_f_r0 (arB d1) n a i j ?_
        rw [spl_arB atN atN atN atN (by omega) (by omega)]
        rw [hpt, if_pos hij]
        exact ⟨rfl, rfl⟩
    · apply pt_g (arB d1) n a i j hsz (by simp; omega) (by omega) (by omega) (by omega) (by omega) (w64 (by omega) (by omega)) (w64 (by omega) (by omega))
      case n0 => rw [atN]; exact ia_arB (by omega)
      case n1 => rw [atN]; exact ia_arB (by omega)
      case n2 => rw [atN, atN]; exact ls_arB (by omega) (by omega)
      case l3 =>
        have e2 : pt_g_d0 (arB d1) n a i j = ptI n a (i + 1) (j - 1) (Sort.swp d1 i j) := by
          unfold pt_g_d0 ptI
          rw [spl_arB atN atN atN atN (by omega) (by omega), iA_add1 (by omega), iA_sub1 (by omega) (by omega)]
        rw [e2, List.drop_drop]
        rw [if_neg hij] at hpt
        have hs2 : (Sort.swp d1 i j).size = n := by rw [swp_size]; exact hs1
        generalize Sort.swp d1 i j = d2 at hs2 hpt
        clear hsz
        refine TriL.blockAt 10 4 (by kernel_rfl) ?_
        refine TriL.loopAt (fun s : Array UInt8 × Nat × Nat => ptI n a s.2.1 s.2.2 s.1) (fun s => s.2.2 + 1 - s.2.1) (ptOk d2 n a (i + 1) (j - 1)) (d2, i + 1, j - 1) (by kernel_rfl) ⟨hs2, by dsimp only; omega, by dsimp only; omega, by dsimp only; omega, rfl⟩ ?_
        rintro ⟨d3, i3, j3⟩ hs
        have h1 := hs.h1; have h2 := hs.h2; have h3 := hs.h3; have h4 := hs.h4; have h5 := hs.h5
        dsimp only at h1 h2 h3 h4 h5 ⊢
        have hsz : n ≤ (arB d3).size := by rw [arB_size]; omega
        rw [Sort.partLoop_eq] at h5
        refine TriL.block (id := 5) (by kernel_rfl) ?_
        refine TriL.block0 (id := 6) (by kernel_rfl) ?_
        refine pl_up d3 n a i3 j3 h1 hn (by omega) (by omega) (by omega) ?_
        repeat (first | with_reducible refine QL.ret ?_ | with_reducible refine QL.exit ?_ | with_reducible refine QB.ret ?_ | with_reducible refine QB.hit ?_ | with_reducible refine QB.normal ?_ | with_reducible refine QB.miss (by rfl) ?_)
        have hi4 : Sort.scanUp (fun x => ltB x d3[a]!) d3 j3 i3 ≤ n := scanUp_le (by omega) (by omega)
        have hi5 := Sort.scanUp_ge (fun x => ltB x d3[a]!) d3 j3 i3
        generalize Sort.scanUp (fun x => ltB x d3[a]!) d3 j3 i3 = i4 at hi4 hi5 h5
        refine TriL.blockAt 1 8 (by kernel_rfl) ?_
        refine pl_down d3 n a i4 j3 h1 hn (by omega) (by omega) (by omega) ?_
        repeat (first | with_reducible refine QL.ret ?_ | with_reducible refine QL.exit ?_ | with_reducible refine QB.ret ?_ | with_reducible refine QB.hit ?_ | with_reducible refine QB.normal ?_ | with_reducible refine QB.miss (by rfl) ?_)
        have hj4 := Sort.scanDown_le (fun x => !ltB x d3[a]!) d3 i4 j3
        generalize Sort.scanDown (fun x => !ltB x d3[a]!) d3 i4 j3 = j4 at hj4 h5
        by_cases hij2 : i4 > j4
        · rw [if_pos hij2] at h5
          apply pl_x (arB d3) n a i4 j4 hsz (by simp; omega)
          case pl0 => simp
          case l1 =>
            repeat (first | with_reducible refine QL.ret ?_ | with_reducible refine QL.exit ?_ | with_reducible refine QB.ret ?_ | with_reducible refine QB.hit ?_ | with_reducible refine QB.normal ?_ | with_reducible refine QB.miss (by rfl) ?_)
            apply pt_z (arB d3) n a j4 hsz (by omega) (by omega) (by omega) (by omega)
            case n0 => rw [atN]; exact ia_arB (by omega)
            case n1 => rw [atN]; exact ia_arB (by omega)
            case n2 => rw [atN, atN]; exact ls_arB (by omega) (by omega)
            case l3 =>
              refine pt_z_r0 (arB d3) n a j4 ?_
              rw [spl_arB atN atN atN atN (by omega) (by omega), hpt, ← h5]
              exact ⟨rfl, rfl⟩
        · rw [if_neg hij2] at h5
          apply pl_m (arB d3) n a i4 j4 hsz (by simp; omega) (by omega) (by omega) (by omega) (by omega) (w64 (by omega) (by omega)) (w64 (by omega) (by omega))
          case n0 => rw [atN]; exact ia_arB (by omega)
          case n1 => rw [atN]; exact ia_arB (by omega)
          case n2 => rw [atN, atN]; exact ls_arB (by omega) (by omega)
          case l3 =>
            repeat (first | with_reducible refine QL.ret ?_ | with_reducible refine QL.exit ?_ | with_reducible refine QB.ret ?_ | with_reducible refine QB.hit ?_ | with_reducible refine QB.normal ?_ | with_reducible refine QB.miss (by rfl) ?_)
            refine TriL.done (by kernel_rfl) ?_
            refine QL.to (Sort.swp d3 i4 j4, i4 + 1, j4 - 1) ⟨by rw [swp_size]; exact h1, by dsimp only; omega, by dsimp only; omega, by dsimp only; omega, h5⟩ (by dsimp only; omega) ?_
            unfold pl_m_d0 ptI
            rw [spl_arB atN atN atN atN (by omega) (by omega), iA_add1 (by omega), iA_sub1 (by omega) (by omega)]
structure peOk (d : Array UInt8) (n a i0 j0 : Nat) (s : Array UInt8 × Nat × Nat) : Prop where
  h1 : s.1.size = n
  h2 : 1 ≤ s.2.1
  h3 : s.2.1 ≤ n
  h4 : s.2.2 < n
  h5 : Sort.partEqLoop ltB a s.2.1 s.2.2 s.1 = Sort.partEqLoop ltB a i0 j0 d
theorem pe_fn (d : Array UInt8) (n a z p : Nat) (hd : d.size = n) (hn : n ≤ 10000) (hz : z ≤ n) (hp : p < z) (ha : a < z) :
    FnT Try.prog 43 [slA n, iA a, iA z, iA p] [rowA d] fun r o => r = .ret (iA (Sort.partitionEqual ltB d a z p).1) ∧ o = [rowA (Sort.partitionEqual ltB d a z p).2] := by
  refine FnT.ofT (n := slotsC Try.prog 43) (by kernel_rfl) ?_
  have hsz : n ≤ (arB d).size := by rw [arB_size]; omega
  apply pe_a (arB d) n a z p hsz (by omega) (by omega) (by omega) (by omega) (w64 (by omega) (by omega)) (w64 (by omega) (by omega))
  case n0 => rw [atN]; exact ia_arB (by omega)
  case n1 => rw [atN]; exact ia_arB (by omega)
  case n2 => rw [atN, atN]; exact ls_arB (by omega) (by omega)
  case l3 =>
    have e : pe_a_d0 (arB d) n a z p = peI n a (a + 1) (z - 1) (Sort.swp d a p) := by
      unfold pe_a_d0 peI
      rw [spl_arB atN atN atN atN (by omega) (by omega), iA_add1 (by omega), iA_sub1 (by omega) (by omega)]
    rw [e]
    unfold Sort.partitionEqual
    have hs2 : (Sort.swp d a p).size = n := by rw [swp_size]; exact hd
    generalize Sort.swp d a p = d2 at hs2
    clear hsz
    refine TriL.blockAt 3 0 (by kernel_rfl) ?_
    refine TriL.loopAt (fun s : Array UInt8 × Nat × Nat => peI n a s.2.1 s.2.2 s.1) (fun s => s.2.2 + 1 - s.2.1) (peOk d2 n a (a + 1) (z - 1)) (d2, a + 1, z - 1) (by kernel_rfl) ⟨hs2, by dsimp only; omega, by dsimp only; omega, by dsimp only; omega, rfl⟩ ?_
    rintro ⟨d3, i3, j3⟩ hs
    have h1 := hs.h1; have h2 := hs.h2; have h3 := hs.h3; have h4 := hs.h4; have h5 := hs.h5
    dsimp only at h1 h2 h3 h4 h5 ⊢
    have hsz : n ≤ (arB d3).size := by rw [arB_size]; omega
    rw [Sort.partEqLoop_eq] at h5
    refine TriL.block (id := 1) (by kernel_rfl) ?_
    refine TriL.block0 (id := 2) (by kernel_rfl) ?_
    refine pe_up d3 n a i3 j3 h1 hn (by omega) (by omega) (by omega) ?_
    repeat (first | with_reducible refine QL.ret ?_ | with_reducible refine QL.exit ?_ | with_reducible refine QB.ret ?_ | with_reducible refine QB.hit ?_ | with_reducible refine QB.normal ?_ | with_reducible refine QB.miss (by rfl) ?_)
    have hi4 : Sort.scanUp (fun x => !ltB d3[a]! x) d3 j3 i3 ≤ n := scanUp_le (by omega) (by omega)
    have hi5 := Sort.scanUp_ge (fun x => !ltB d3[a]! x) d3 j3 i3
    generalize Sort.scanUp (fun x => !ltB d3[a]! x) d3 j3 i3 = i4 at hi4 hi5 h5
    refine TriL.blockAt 1 4 (by kernel_rfl) ?_
    refine pe_down d3 n a i4 j3 h1 hn (by omega) (by omega) (by omega) ?_
    repeat (first | with_reducible refine QL.ret ?_ | with_reducible refine QL.exit ?_ | with_reducible refine QB.ret ?_ | with_reducible refine QB.hit ?_ | with_reducible refine QB.normal ?_ | with_reducible refine QB.miss (by rfl) ?_)
    have hj4 := Sort.scanDown_le (fun x => ltB d3[a]! x) d3 i4 j3
    generalize Sort.scanDown (fun x => ltB d3[a]! x) d3 i4 j3 = j4 at hj4 h5
    by_cases hij2 : i4 > j4
    · rw [if_pos hij2] at h5
      apply pe_x (arB d3) n a i4 j4 hsz (by simp; omega)
      case pl0 => simp
      case l1 =>
        repeat (first | with_reducible refine QL.ret ?_ | with_reducible refine QL.exit ?_ | with_reducible refine QB.ret ?_ | with_reducible refine QB.hit ?_ | with_reducible refine QB.normal ?_ | with_reducible refine QB.miss (by rfl) ?_)
        apply pe_z (arB d3) n i4 hsz
        case pl0 => simp
        case l1 =>
          refine pe_z_r0 (arB d3) n i4 (by simp) ?_
          rw [← h5]
          exact ⟨rfl, rfl⟩
    · rw [if_neg hij2] at h5
      apply pe_m (arB d3) n a i4 j4 hsz (by simp; omega) (by omega) (by omega) (by omega) (by omega) (w64 (by omega) (by omega)) (w64 (by omega) (by omega))
      case n0 => rw [atN]; exact ia_arB (by omega)
      case n1 => rw [atN]; exact ia_arB (by omega)
      case n2 => rw [atN, atN]; exact ls_arB (by omega) (by omega)
      case l3 =>
        repeat (first | with_reducible refine QL.ret ?_ | with_reducible refine QL.exit ?_ | with_reducible refine QB.ret ?_ | with_reducible refine QB.hit ?_ | with_reducible refine QB.normal ?_ | with_reducible refine QB.miss (by rfl) ?_)
        refine TriL.done (by kernel_rfl) ?_
        refine QL.to (Sort.swp d3 i4 j4, i4 + 1, j4 - 1) ⟨by rw [swp_size]; exact h1, by dsimp only; omega, by dsimp only; omega, by dsimp only; omega, h5⟩ (by dsimp only; omega) ?_
        unfold pe_m_d0 peI
        rw [spl_arB atN atN atN atN (by omega) (by omega), iA_add1 (by omega), iA_sub1 (by omega) (by omega)]
end Go.Proofs.Ytnlkkgpcikkpoaa
