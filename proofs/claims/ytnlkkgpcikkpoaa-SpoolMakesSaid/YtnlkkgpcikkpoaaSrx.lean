/- The sort of bytes: the partial insertion sort computes what Derived.Sort.Defs says. -/
import Derived.Test.YtnlkkgpcikkpoaaSru
import Derived.Test.YtnlkkgpcikkpoaaSoc
import Derived.Sort.LotA
import Derived.KernelRfl
namespace Go.Proofs.Ytnlkkgpcikkpoaa.Vm
open Go.RowKit
def QN (N : Desc → Prop) (Q : VEx → Desc → Prop) : VEx → Desc → Prop
  | .normal, d => N d
  | x, d => Q x d
theorem TriL.app {P : Program} {n k : Nat} {l l' : List Code} {d : Desc} {Q : VEx → Desc → Prop} (h : TriL P n k l d (QN (fun d' => TriL P n k l' d' Q) Q)) : TriL P n k (l ++ l') d Q := by
  intro X hn hk a w hd
  refine wpL_append (wpL_mono (h X hn hk a w hd) fun e a' w' he => ?_)
  obtain ⟨x, d', h1, h2, h3⟩ := he
  cases h2 with
  | normal => exact h1 X hn hk a' w' h3
  | exit j => exact ⟨_, d', h1, .exit j, h3⟩
  | ret => exact ⟨_, d', h1, .ret, h3⟩
  | panic v v' hv => exact ⟨_, d', h1, .panic v v' hv, h3⟩
theorem TriL.skip {P : Program} {n k : Nat} {l : List Code} {d : Desc} {Q : VEx → Desc → Prop} (h : TriL P n k l d Q) : TriL P n k (Code.skip :: l) d Q := fun X hn hk a w hd => wp_skip (Q := Exit.then (wpL P l _) _) (h X hn hk a w hd)
end Go.Proofs.Ytnlkkgpcikkpoaa.Vm
namespace Go.Proofs.Ytnlkkgpcikkpoaa
open Go Vm Go.RowKit
set_option maxRecDepth 100000
theorem TriL.blockZ {P : Program} {n k id : Nat} {l : List Code} {d : Desc} {Q : VEx → Desc → Prop} (hl : isBlock l = some id) (h : TriL P n k (flat2 (inner l)) d (QB id (fun d' => TriL P n k (l.drop 1) d' Q) Q)) : TriL P n k l d Q :=
  TriL.block hl (by rw [← List.drop_one]; exact h)
theorem scanSorted_if (d : Array UInt8) (b i : Nat) : Sort.scanSorted ltB d b i = if i < b ∧ ltB d[i]! d[i - 1]! = false then Sort.scanSorted ltB d b (i + 1) else i := by
  rw [Sort.scanSorted]; simp
theorem shiftDown_if (j : Nat) (d : Array UInt8) : Sort.shiftDown ltB j d = if 1 ≤ j ∧ ltB d[j]! d[j - 1]! = true then Sort.shiftDown ltB (j - 1) (Sort.swp d j (j - 1)) else d := by
  cases j with
  | zero => rw [if_neg (by omega)]; rfl
  | succ j =>
    rw [Sort.shiftDown]
    by_cases h : ltB d[j + 1]! d[j]! = true
    · rw [if_neg (by simp [h]), if_pos ⟨by omega, h⟩]; rfl
    · rw [if_pos (by simpa using h), if_neg (fun x => h x.2)]
theorem shiftUp_if (b j : Nat) (d : Array UInt8) : Sort.shiftUp ltB b j d = if j < b ∧ ltB d[j]! d[j - 1]! = true then Sort.shiftUp ltB b (j + 1) (Sort.swp d j (j - 1)) else d := by
  rw [Sort.shiftUp]
  by_cases h1 : j < b
  · rw [if_pos h1]
    by_cases h : ltB d[j]! d[j - 1]! = true
    · rw [if_neg (by simp [h]), if_pos ⟨h1, h⟩]
    · rw [if_pos (by simpa using h), if_neg (fun x => h x.2)]
  · rw [if_neg h1, if_neg (fun x => h1 x.1)]
def piI (n a z : Nat) (s : Array UInt8 × Nat × Nat) : Desc := ⟨[(0, slA n), (1, iA a), (2, iA z), (7, iA s.2.1), (8, iA s.2.2)], [rowA s.1]⟩
def piJ (n a z i c r : Nat) (s : Array UInt8 × Nat) : Desc := ⟨[(0, slA n), (1, iA a), (2, iA z), (7, iA i), (8, iA c), (r, iA s.2)], [rowA s.1]⟩
def piF (n a z i c r : Nat) (b : Bool) (d : Array UInt8) : Desc := ⟨[(0, slA n), (1, iA a), (2, iA z), (7, iA i), (8, iA c), (r, .bool b)], [rowA d]⟩
structure piOk (d : Array UInt8) (n a z : Nat) (s : Array UInt8 × Nat × Nat) : Prop where
  h1 : s.1.size = n
  h2 : a + 1 ≤ s.2.1
  h3 : s.2.1 ≤ z
  h4 : s.2.2 ≤ 5
  h5 : Sort.partialIns ltB a z (5 - s.2.2) s.2.1 s.1 = Sort.partialInsertionSort ltB d a z
theorem scanSorted_le (d : Array UInt8) (b i : Nat) (h : i ≤ b) : i ≤ Sort.scanSorted ltB d b i ∧ Sort.scanSorted ltB d b i ≤ b := by
  induction hk : b - i generalizing i with
  | zero => rw [scanSorted_if, if_neg (by omega)]; omega
  | succ k ih =>
    rw [scanSorted_if]
    split
    · have := ih (i + 1) (by omega) (by omega); omega
    · omega
noncomputable abbrev Lpi : List Code := Lslices_partialInsertionSortOrdered_byte_
noncomputable abbrev Bpi : List Code := flat2 (inner ((flat2 (inner (flat2 (inner (Lpi.drop 3))))).drop 2))
theorem pi_scan {Q : VEx → Desc → Prop} (d : Array UInt8) (n a z i0 c : Nat) (hd : d.size = n) (hn : n ≤ 10000) (hz : z ≤ n) (hi1 : 1 ≤ i0) (hi : i0 ≤ n) (h : Q (.exit 2) (piI n a z (d, Sort.scanSorted ltB d z i0, c))) :
    TriL Try.prog 133 1 (flat2 (inner Bpi)) (piI n a z (d, i0, c)) Q := by
  refine TriL.loopAt (fun i => piI n a z (d, i, c)) (fun i => z - i) (fun i => 1 ≤ i ∧ i ≤ n ∧ Sort.scanSorted ltB d z i = Sort.scanSorted ltB d z i0) i0 (by kernel_rfl) ⟨hi1, hi, rfl⟩ ?_
  rintro i ⟨h0, h1, h2⟩
  have hsz : n ≤ (arB d).size := by rw [arB_size]; omega
  by_cases hij : i < z
  · apply pi_c (arB d) n a z i c hsz (by simp; omega) (by omega) (by omega) (w64 (by omega) (by omega))
    case n0 => rw [atN]; exact ia_arB (by omega)
    case n1 => rw [atN1 (by omega) (by omega)]; exact ia_arB (by omega)
    case pl0 => simp
    case l3 =>
      intro g
      rw [lt_arB atN (atN1 (by omega) (by omega)) (by omega) (by omega)] at g
      apply pi_d (arB d) n a z i c hsz (w64 (by omega) (by omega))
      case pl0 => simp
      case l1 =>
        refine QL.to (i + 1) ⟨by omega, by omega, ?_⟩ (by omega) (by unfold pi_d_d0 piI; rw [iA_add1 (by omega)])
        rw [← h2, scanSorted_if d z i, if_pos ⟨hij, by simpa using g⟩]
    case l4 =>
      intro g
      rw [lt_arB atN (atN1 (by omega) (by omega)) (by omega) (by omega)] at g
      rw [← h2, scanSorted_if, if_neg (fun x => by have := x.2; simp at g; rw [g] at this; cases this)] at h
      repeat (first | with_reducible refine QL.ret ?_ | with_reducible refine QL.exit ?_ | with_reducible refine QB.ret ?_ | with_reducible refine QB.hit ?_ | with_reducible refine QB.normal ?_ | with_reducible refine QB.miss (by rfl) ?_)
      exact h
  · apply pi_cf (arB d) n a z i c hsz (by simp; omega)
    case pl0 => simp
    case l1 =>
      rw [← h2, scanSorted_if, if_neg (fun x => hij x.1)] at h
      repeat (first | with_reducible refine QL.ret ?_ | with_reducible refine QL.exit ?_ | with_reducible refine QB.ret ?_ | with_reducible refine QB.hit ?_ | with_reducible refine QB.normal ?_ | with_reducible refine QB.miss (by rfl) ?_)
      exact h
theorem shiftDown_size (j : Nat) (d : Array UInt8) : (Sort.shiftDown ltB j d).size = d.size := by
  induction j generalizing d with
  | zero => rfl
  | succ j ih => rw [shiftDown_if]; split; · rw [show j + 1 - 1 = j from rfl, ih, swp_size]
                 · rfl
theorem shiftUp_size (b j : Nat) (d : Array UInt8) : (Sort.shiftUp ltB b j d).size = d.size := by
  induction hk : b - j generalizing j d with
  | zero => rw [shiftUp_if, if_neg (by omega)]
  | succ k ih => rw [shiftUp_if]; split; · rw [ih _ _ (by omega), swp_size]
                 · rfl
theorem pi_down {Q : VEx → Desc → Prop} (d : Array UInt8) (n a z i c : Nat) (hd : d.size = n) (hn : n ≤ 10000) (hi : i < n) (hi1 : 1 ≤ i) (h : Q .normal (piI n a z (Sort.shiftDown ltB (i - 1) d, i, c))) :
    TriL Try.prog 133 1 (flat2 (arm true (Bpi.drop 7))) (piF n a z i c 61 true d) Q := by
  have hsz : n ≤ (arB d).size := by rw [arB_size]; omega
  apply pi_g (arB d) n a z i c hsz (w64 (by omega) (by omega))
  case pl0 => simp
  case l1 =>
    have e : pi_g_d0 (arB d) n a z i c = piJ n a z i c 9 (d, i - 1) := by unfold pi_g_d0 piJ; rw [iA_sub1 (by omega) (by omega)]
    rw [e]
    refine TriL.blockAt 1 4 (by kernel_rfl) ?_
    refine TriL.loopAt (piJ n a z i c 9) (fun s => s.2) (fun s => s.1.size = n ∧ s.2 < n ∧ Sort.shiftDown ltB s.2 s.1 = Sort.shiftDown ltB (i - 1) d) (d, i - 1) (by kernel_rfl) ⟨hd, by dsimp only; omega, rfl⟩ ?_
    rintro ⟨d2, k⟩ ⟨h1, h2, h3⟩
    dsimp only at h1 h2 h3
    clear hsz
    have hsz : n ≤ (arB d2).size := by rw [arB_size]; omega
    have fin : Sort.shiftDown ltB (i - 1) d = d2 → Q .normal (piI n a z (d2, i, c)) := fun x => by rw [x] at h; exact h
    apply pi_h (arB d2) n a z i c k hsz
    case pl0 => simp
    case l2 =>
      intro g
      have g := of_decide_eq_false g
      rw [shiftDown_if, if_neg (by omega)] at h3
      repeat (first | with_reducible refine QL.ret ?_ | with_reducible refine QL.exit ?_ | with_reducible refine QB.ret ?_ | with_reducible refine QB.hit ?_ | with_reducible refine QB.normal ?_ | with_reducible refine QB.miss (by rfl) ?_)
      refine TriL.done (by kernel_rfl) ?_
      exact fin h3.symm
    case l1 =>
      intro g
      have g := of_decide_eq_true g
      refine TriL.blockAt 2 5 (by kernel_rfl) ?_
      apply pi_i (arB d2) n a z i c k hsz (by omega) (by omega) (w64 (by omega) (by omega))
      case n0 => rw [atN]; exact ia_arB (by omega)
      case n1 => rw [atN1 (by omega) (by omega)]; exact ia_arB (by omega)
      case pl0 => simp
      case l3 =>
        intro g2
        rw [lt_arB atN (atN1 (by omega) (by omega)) (by omega) (by omega)] at g2
        rw [shiftDown_if, if_neg (fun x => by have := x.2; rw [this] at g2; cases g2)] at h3
        repeat (first | with_reducible refine QL.ret ?_ | with_reducible refine QL.exit ?_ | with_reducible refine QB.ret ?_ | with_reducible refine QB.hit ?_ | with_reducible refine QB.normal ?_ | with_reducible refine QB.miss (by rfl) ?_)
        refine TriL.done (by kernel_rfl) ?_
        exact fin h3.symm
      case l4 =>
        intro g2
        rw [lt_arB atN (atN1 (by omega) (by omega)) (by omega) (by omega)] at g2
        rw [shiftDown_if, if_pos ⟨by omega, by simpa using g2⟩] at h3
        apply pi_j (arB d2) n a z i c k hsz (by omega) (by omega) (w64 (by omega) (by omega))
        case n0 => rw [atN1 (by omega) (by omega)]; exact ia_arB (by omega)
        case n1 => rw [atN]; exact ia_arB (by omega)
        case n2 => rw [atN1 (by omega) (by omega), atN]; exact ls_arB (by omega) (by omega)
        case l3 =>
          repeat (first | with_reducible refine QL.ret ?_ | with_reducible refine QL.exit ?_ | with_reducible refine QB.ret ?_ | with_reducible refine QB.hit ?_ | with_reducible refine QB.normal ?_ | with_reducible refine QB.miss (by rfl) ?_)
          have e2 : pi_j_d0 (arB d2) n a z i c k = piJ n a z i c 9 (Sort.swp d2 k (k - 1), k) := by
            unfold pi_j_d0 piJ
            rw [spl_arB atN (atN1 (by omega) (by omega)) atN (atN1 (by omega) (by omega)) (by omega) (by omega)]
          rw [e2]
          apply pi_k (arB (Sort.swp d2 k (k - 1))) n a z i c k (by rw [arB_size, swp_size]; omega) (w64 (by omega) (by omega))
          case pl0 => simp
          case l1 =>
            exact QL.to (Sort.swp d2 k (k - 1), k - 1) ⟨by rw [swp_size]; exact h1, by dsimp only; omega, h3⟩ (by dsimp only; omega) (by unfold pi_k_d0 piJ; rw [iA_sub1 (by omega) (by omega)])
theorem pi_up {Q : VEx → Desc → Prop} (d : Array UInt8) (n a z i c : Nat) (hd : d.size = n) (hn : n ≤ 10000) (hz : z ≤ n) (hi : i < n) (hi1 : 1 ≤ i) (h : Q .normal (piI n a z (Sort.shiftUp ltB z (i + 1) d, i, c))) :
    TriL Try.prog 133 1 (flat2 (arm true (Bpi.drop 9))) (piF n a z i c 98 true d) Q := by
  have hsz : n ≤ (arB d).size := by rw [arB_size]; omega
  apply pi_m (arB d) n a z i c hsz (w64 (by omega) (by omega))
  case pl0 => simp
  case l1 =>
    have e : pi_m_d0 (arB d) n a z i c = piJ n a z i c 10 (d, i + 1) := by unfold pi_m_d0 piJ; rw [iA_add1 (by omega)]
    rw [e]
    refine TriL.blockAt 1 6 (by kernel_rfl) ?_
    refine TriL.loopAt (piJ n a z i c 10) (fun s => z - s.2) (fun s => s.1.size = n ∧ 1 ≤ s.2 ∧ s.2 ≤ n ∧ Sort.shiftUp ltB z s.2 s.1 = Sort.shiftUp ltB z (i + 1) d) (d, i + 1) (by kernel_rfl) ⟨hd, by dsimp only; omega, by dsimp only; omega, rfl⟩ ?_
    rintro ⟨d2, k⟩ ⟨h1, h0, h2, h3⟩
    dsimp only at h0 h1 h2 h3
    clear hsz
    have hsz : n ≤ (arB d2).size := by rw [arB_size]; omega
    have fin : Sort.shiftUp ltB z (i + 1) d = d2 → Q .normal (piI n a z (d2, i, c)) := fun x => by rw [x] at h; exact h
    apply pi_n (arB d2) n a z i c k hsz
    case pl0 => simp
    case l2 =>
      intro g
      have g := of_decide_eq_false g
      rw [shiftUp_if, if_neg (by omega)] at h3
      repeat (first | with_reducible refine QL.ret ?_ | with_reducible refine QL.exit ?_ | with_reducible refine QB.ret ?_ | with_reducible refine QB.hit ?_ | with_reducible refine QB.normal ?_ | with_reducible refine QB.miss (by rfl) ?_)
      refine TriL.done (by kernel_rfl) ?_
      exact fin h3.symm
    case l1 =>
      intro g
      have g := of_decide_eq_true g
      refine TriL.blockAt 2 7 (by kernel_rfl) ?_
      apply pi_o (arB d2) n a z i c k hsz (by omega) (by omega) (w64 (by omega) (by omega))
      case n0 => rw [atN]; exact ia_arB (by omega)
      case n1 => rw [atN1 (by omega) (by omega)]; exact ia_arB (by omega)
      case pl0 => simp
      case l3 =>
        intro g2
        rw [lt_arB atN (atN1 (by omega) (by omega)) (by omega) (by omega)] at g2
        rw [shiftUp_if, if_neg (fun x => by have := x.2; rw [this] at g2; cases g2)] at h3
        repeat (first | with_reducible refine QL.ret ?_ | with_reducible refine QL.exit ?_ | with_reducible refine QB.ret ?_ | with_reducible refine QB.hit ?_ | with_reducible refine QB.normal ?_ | with_reducible refine QB.miss (by rfl) ?_)
        refine TriL.done (by kernel_rfl) ?_
        exact fin h3.symm
      case l4 =>
        intro g2
        rw [lt_arB atN (atN1 (by omega) (by omega)) (by omega) (by omega)] at g2
        rw [shiftUp_if, if_pos ⟨by omega, by simpa using g2⟩] at h3
        apply pi_p (arB d2) n a z i c k hsz (by omega) (by omega) (w64 (by omega) (by omega))
        case n0 => rw [atN1 (by omega) (by omega)]; exact ia_arB (by omega)
        case n1 => rw [atN]; exact ia_arB (by omega)
        case n2 => rw [atN1 (by omega) (by omega), atN]; exact ls_arB (by omega) (by omega)
        case l3 =>
          repeat (first | with_reducible refine QL.ret ?_ | with_reducible refine QL.exit ?_ | with_reducible refine QB.ret ?_ | with_reducible refine QB.hit ?_ | with_reducible refine QB.normal ?_ | with_reducible refine QB.miss (by rfl) ?_)
          have e2 : pi_p_d0 (arB d2) n a z i c k = piJ n a z i c 10 (Sort.swp d2 k (k - 1), k) := by
            unfold pi_p_d0 piJ
            rw [spl_arB atN (atN1 (by omega) (by omega)) atN (atN1 (by omega) (by omega)) (by omega) (by omega)]
          rw [e2]
          apply pi_q (arB (Sort.swp d2 k (k - 1))) n a z i c k (by rw [arB_size, swp_size]; omega) (w64 (by omega) (by omega))
          case pl0 => simp
          case l1 =>
            exact QL.to (Sort.swp d2 k (k - 1), k + 1) ⟨by rw [swp_size]; exact h1, by dsimp only; omega, by dsimp only; omega, h3⟩ (by dsimp only; omega) (by unfold pi_q_d0 piJ; rw [iA_add1 (by omega)])
theorem pi_fn (d : Array UInt8) (n a z : Nat) (hd : d.size = n) (hn : n ≤ 10000) (hz : z ≤ n) (ha : a < z) :
    FnT Try.prog 41 [slA n, iA a, iA z] [rowA d] fun r o => r = .ret (.bool (Sort.partialInsertionSort ltB d a z).2) ∧ o = [rowA (Sort.partialInsertionSort ltB d a z).1] := by
  refine FnT.ofT (n := slotsC Try.prog 41) (by kernel_rfl) ?_
  apply pi_a (arB d) n a z (by rw [arB_size]; omega) (w64 (by omega) (by omega))
  case pl0 => simp
  case l1 =>
    have e : pi_a_d0 (arB d) n a z = piI n a z (d, a + 1, 0) := by unfold pi_a_d0 piI; rw [iA_add1 (by omega)]; rfl
    rw [e]
    refine TriL.blockAt 3 0 (by kernel_rfl) ?_
    refine TriL.loopAt (piI n a z) (fun s => 5 - s.2.2) (piOk d n a z) (d, a + 1, 0) (by kernel_rfl) ⟨hd, Nat.le_refl _, by dsimp only; omega, by dsimp only; omega, rfl⟩ ?_
    rintro ⟨d1, i0, c⟩ hs
    have h1 := hs.h1; have h2 := hs.h2; have h3 := hs.h3; have h4 := hs.h4; have h5 := hs.h5
    dsimp only at h1 h2 h3 h4 h5
    have hsz : n ≤ (arB d1).size := by rw [arB_size]; omega
    apply pi_b (arB d1) n a z i0 c hsz
    case pl0 => simp
    case l2 =>
      intro g
      have g := of_decide_eq_false g
      rw [show 5 - c = 0 by omega] at h5
      repeat (first | with_reducible refine QL.ret ?_ | with_reducible refine QL.exit ?_ | with_reducible refine QB.ret ?_ | with_reducible refine QB.hit ?_ | with_reducible refine QB.normal ?_ | with_reducible refine QB.miss (by rfl) ?_)
      apply pi_z (arB d1) n hsz
      case pl0 => simp
      case l1 =>
        refine pi_z_r0 (arB d1) n (by simp) ?_
        rw [← h5]
        exact ⟨rfl, rfl⟩
    case l1 =>
      intro g
      have g := of_decide_eq_true g
      rw [show 5 - c = (5 - (c + 1)) + 1 by omega, Sort.partialIns_succ] at h5
      refine TriL.blockAt 2 1 (by kernel_rfl) ?_
      refine TriL.blockZ (id := 2) (by kernel_rfl) ?_
      refine pi_scan d1 n a z i0 c h1 hn hz (by omega) (by omega) ?_
      repeat (first | with_reducible refine QL.ret ?_ | with_reducible refine QL.exit ?_ | with_reducible refine QB.ret ?_ | with_reducible refine QB.hit ?_ | with_reducible refine QB.normal ?_ | with_reducible refine QB.miss (by rfl) ?_)
      have hk := scanSorted_le d1 z i0 h3
      generalize Sort.scanSorted ltB d1 z i0 = i at hk h5
      by_cases hiz : i = z
      · rw [if_pos hiz] at h5
        apply pi_e1 (arB d1) n a z i c hsz (by omega)
        case pl0 => simp
        case l1 =>
          repeat (first | with_reducible refine QL.ret ?_ | with_reducible refine QL.exit ?_ | with_reducible refine QB.ret ?_ | with_reducible refine QB.hit ?_ | with_reducible refine QB.normal ?_ | with_reducible refine QB.miss (by rfl) ?_)
          refine pi_e1_r0 (arB d1) n a z i c (by simp) ?_
          rw [← h5]
          exact ⟨rfl, rfl⟩
      · rw [if_neg hiz] at h5
        have ew : IntKind.wrap IntKind.i64 ((z : Int) - a) = (z : Int) - a := w64 (by omega) (by omega)
        by_cases h50 : z - a < 50
        · rw [if_pos h50] at h5
          apply pi_e2 (arB d1) n a z i c hsz (by simp; omega) ew (by rw [ew]; simp; omega)
          case pl0 => simp
          case l1 =>
            repeat (first | with_reducible refine QL.ret ?_ | with_reducible refine QL.exit ?_ | with_reducible refine QB.ret ?_ | with_reducible refine QB.hit ?_ | with_reducible refine QB.normal ?_ | with_reducible refine QB.miss (by rfl) ?_)
            refine pi_e2_r0 (arB d1) n a z i c (by simp) ?_
            rw [← h5]
            exact ⟨rfl, rfl⟩
        · rw [if_neg h50] at h5
          apply pi_e3 (arB d1) n a z i c hsz (by simp; omega) ew (by rw [ew]; simp; omega)
          case pl0 => simp
          case l1 =>
            rw [List.drop_drop]
            apply pi_f (arB d1) n a z i c hsz (by omega) (by omega) (w64 (by omega) (by omega)) (w64 (by omega) (by omega))
            case n0 => rw [atN1 (by omega) (by omega)]; exact ia_arB (by omega)
            case n1 => rw [atN]; exact ia_arB (by omega)
            case n2 => rw [atN1 (by omega) (by omega), atN]; exact ls_arB (by omega) (by omega)
            case l3 =>
              have hs2 : (Sort.swp d1 i (i - 1)).size = n := by rw [swp_size]; exact h1
              have e2 : pi_f_d0 (arB d1) n a z i c = piF n a z i c 61 (decide (i - a ≥ 2)) (Sort.swp d1 i (i - 1)) := by
                unfold pi_f_d0 piF
                rw [spl_arB atN (atN1 (by omega) (by omega)) atN (atN1 (by omega) (by omega)) (by omega) (by omega), w64 (x := (i : Int) - a) (by omega) (by omega),
                  show decide ((i : Int) - a ≥ 2) = decide (i - a ≥ 2) from decide_eq_decide.2 (by omega)]
              rw [e2, List.drop_drop]
              generalize Sort.swp d1 i (i - 1) = d2 at hs2 h5
              -- what follows behind the two shifts
              have last : ∀ d3 : Array UInt8, d3.size = n → Sort.partialIns ltB a z (5 - (c + 1)) i (Sort.fixUp ltB z i d3) = Sort.partialInsertionSort ltB d a z → ∀ (b : Bool), b = decide (z - i ≥ 2) →
                  TriL Try.prog 133 1 (Bpi.drop 9) (piF n a z i c 98 b d3) (QB 1 (fun d' => TriL Try.prog 133 1 ((flat2 (inner (flat2 (inner (Lpi.drop 3))))).drop (2 + 1)) d' (QL (piI n a z) (fun s => 5 - s.2.2) (piOk d n a z) (d1, i0, c) (QB 0 (fun d' => TriL Try.prog 133 1 (Lpi.drop (3 + 1)) d' (FinT Try.prog 41 133 1 fun r o => r = .ret (.bool (Sort.partialInsertionSort ltB d a z).2) ∧ o = [rowA (Sort.partialInsertionSort ltB d a z).1])) (FinT Try.prog 41 133 1 fun r o => r = .ret (.bool (Sort.partialInsertionSort ltB d a z).2) ∧ o = [rowA (Sort.partialInsertionSort ltB d a z).1])))) (QL (piI n a z) (fun s => 5 - s.2.2) (piOk d n a z) (d1, i0, c) (QB 0 (fun d' => TriL Try.prog 133 1 (Lpi.drop (3 + 1)) d' (FinT Try.prog 41 133 1 fun r o => r = .ret (.bool (Sort.partialInsertionSort ltB d a z).2) ∧ o = [rowA (Sort.partialInsertionSort ltB d a z).1])) (FinT Try.prog 41 133 1 fun r o => r = .ret (.bool (Sort.partialInsertionSort ltB d a z).2) ∧ o = [rowA (Sort.partialInsertionSort ltB d a z).1])))) := by
                intro d3 hs3 h6 b hb
                have hsz3 : ∀ x : Array UInt8, x.size = n → n ≤ (arB x).size := fun x hx => by rw [arB_size]; omega
                unfold Sort.fixUp at h6
                cases b with
                | true =>
                  have hb := of_decide_eq_true hb.symm
                  rw [if_pos hb] at h6
                  refine TriL.condAt 9 (c := 98) (b := true) (by kernel_rfl) (by rfl) (by rfl) ?_
                  refine TriL.app (pi_up d3 n a z i c hs3 hn hz (by omega) (by omega) ?_)
                  refine TriL.done (by kernel_rfl) ?_
                  repeat (first | with_reducible refine QL.ret ?_ | with_reducible refine QL.exit ?_ | with_reducible refine QB.ret ?_ | with_reducible refine QB.hit ?_ | with_reducible refine QB.normal ?_ | with_reducible refine QB.miss (by rfl) ?_)
                  apply pi_s (arB (Sort.shiftUp ltB z (i + 1) d3)) n a z i c (hsz3 _ (by rw [shiftUp_size]; exact hs3)) (w64 (by omega) (by omega))
                  case pl0 => simp
                  case l1 =>
                    exact QL.to (Sort.shiftUp ltB z (i + 1) d3, i, c + 1) ⟨by rw [shiftUp_size]; exact hs3, by dsimp only; omega, by dsimp only; omega, by dsimp only; omega, h6⟩ (by dsimp only; omega) (by unfold pi_s_d0 piI; rw [iA_add1 (by omega)])
                | false =>
                  have hb := of_decide_eq_false hb.symm
                  rw [if_neg hb] at h6
                  refine TriL.condAt 9 (c := 98) (b := false) (by kernel_rfl) (by rfl) (by rfl) ?_
                  rw [show flat2 (arm false (Bpi.drop 9)) ++ Bpi.drop (9 + 1) = [Code.skip] by kernel_rfl]
                  refine TriL.skip (TriL.nil ?_)
                  repeat (first | with_reducible refine QL.ret ?_ | with_reducible refine QL.exit ?_ | with_reducible refine QB.ret ?_ | with_reducible refine QB.hit ?_ | with_reducible refine QB.normal ?_ | with_reducible refine QB.miss (by rfl) ?_)
                  apply pi_sf (arB d3) n a z i c (hsz3 _ hs3) (w64 (by omega) (by omega))
                  case pl0 => simp
                  case l1 =>
                    exact QL.to (d3, i, c + 1) ⟨hs3, by dsimp only; omega, by dsimp only; omega, by dsimp only; omega, h6⟩ (by dsimp only; omega) (by unfold pi_sf_d0 piI; rw [iA_add1 (by omega)])
              have ez : IntKind.wrap IntKind.i64 ((z : Int) - i) = (z : Int) - i := w64 (by omega) (by omega)
              unfold Sort.fixDown at h5
              by_cases hb : i - a ≥ 2
              · rw [if_pos hb] at h5
                rw [decide_eq_true hb]
                refine TriL.condAt 7 (c := 61) (b := true) (by kernel_rfl) (by rfl) (by rfl) ?_
                refine TriL.app (pi_down d2 n a z i c hs2 hn (by omega) (by omega) ?_)
                have hs3 : (Sort.shiftDown ltB (i - 1) d2).size = n := by rw [shiftDown_size]; exact hs2
                generalize Sort.shiftDown ltB (i - 1) d2 = d3 at hs3 h5
                show TriL Try.prog 133 1 (Bpi.drop 8) _ _
                apply pi_l (arB d3) n a z i c (by rw [arB_size]; omega) ez
                case pl0 => simp
                case l1 =>
                  have e3 : pi_l_d0 (arB d3) n a z i c = piF n a z i c 98 (decide (z - i ≥ 2)) d3 := by
                    unfold pi_l_d0 piF
                    rw [ez, show decide ((z : Int) - i ≥ 2) = decide (z - i ≥ 2) from decide_eq_decide.2 (by omega)]
                  rw [e3, List.drop_drop]
                  exact last d3 hs3 h5 _ rfl
              · rw [if_neg hb] at h5
                rw [decide_eq_false hb]
                refine TriL.condAt 7 (c := 61) (b := false) (by kernel_rfl) (by rfl) (by rfl) ?_
                rw [show flat2 (arm false (Bpi.drop 7)) ++ Bpi.drop (7 + 1) = Code.skip :: Bpi.drop 8 by kernel_rfl]
                refine TriL.skip ?_
                apply pi_lf (arB d2) n a z i c (by rw [arB_size]; omega) ez
                case pl0 => simp
                case l1 =>
                  have e3 : pi_lf_d0 (arB d2) n a z i c = piF n a z i c 98 (decide (z - i ≥ 2)) d2 := by
                    unfold pi_lf_d0 piF
                    rw [ez, show decide ((z : Int) - i ≥ 2) = decide (z - i ≥ 2) from decide_eq_decide.2 (by omega)]
                  rw [e3, List.drop_drop]
                  exact last d2 hs2 h5 _ rfl
end Go.Proofs.Ytnlkkgpcikkpoaa
