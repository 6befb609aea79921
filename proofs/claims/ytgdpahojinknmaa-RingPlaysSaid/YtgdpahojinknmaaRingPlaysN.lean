/- RingPlays answers true. -/
import Derived.Test.YtgdpahojinknmaaRlp
namespace Go.Proofs.Ytgdpahojinknmaa
open Go Vm Go.RowKit
set_option linter.unusedVariables false
set_option linter.unusedSimpArgs false
set_option maxRecDepth 100000

theorem few1_lenP {l : List Act1} (h : few1B l = true) : l.length ≤ 500 ∧ ∀ j, (l.getD j ⟨0, ByteArray.empty⟩).b.size ≤ 65536 := by
  unfold few1B at h
  simp only [Bool.and_eq_true, decide_eq_true_eq] at h
  refine ⟨h.1, fun j => ?_⟩
  by_cases hj : j < l.length
  · have h1 := sum1_take l j hj
    have h2 := sum1_le l (j + 1)
    omega
  · have : l.getD j ⟨0, ByteArray.empty⟩ = ⟨0, ByteArray.empty⟩ := by simp [List.getD, List.getElem?_eq_none (by omega : l.length ≤ j)]
    rw [this]; decide
def xAt (A : List Act1) (j : Int) : Act1 := A.getD j.toNat ⟨0, ByteArray.empty⟩
theorem pinv_new (z : Int) : PInv (ringK (newK z)) (newK z) [] := by
  refine ⟨okR_iff.2 ⟨Int.le_refl 0, (show (0 : Int) < 8 by decide), Int.le_refl 0, ?_, ?_⟩, rfl, rfl, fun s hs => by cases hs⟩
  · show 0 ≤ newK z
    unfold newK
    cases h1 : decide (z < 1) with
    | true => exact Int.le_refl 0
    | false => cases h2 : decide (z > 8) with
      | true => exact Int.le_refl 0
      | false => have := of_decide_eq_false h1; show 0 ≤ z; omega
  · show newK z ≤ 8
    unfold newK
    cases h1 : decide (z < 1) with
    | true => show (0 : Int) ≤ 8; decide
    | false => cases h2 : decide (z > 8) with
      | true => show (0 : Int) ≤ 8; decide
      | false => have := of_decide_eq_false h2; show z ≤ 8; omega

abbrev RS := RgV × Int × List ByteArray × Int
def rlI (A : List Act1) (s : RS) : Desc := ⟨[(1, .slice (some ⟨0, 0, none⟩) A.length A.length), (5, .pointer (some ⟨1, 0, none⟩)), (7, .pointer (some ⟨2, 0, none⟩)), (9, .int .i64 s.2.2.2)],
  [rows1 A, .cells (rgVC s.1) 25 false, .cells [.int .i64 s.2.1, slL 3 s.2.2.1] 46 false, .cells (strsC s.2.2.1) 9 false]⟩

set_option maxHeartbeats 4000000 in
theorem ringPlays_fn (A : List Act1) (z : Int) (hA : small1 A) : FnT Try.prog 5 [.int .i64 z, .slice (some ⟨0, 0, none⟩) A.length A.length] [rows1 A] fun r o => r = .ret (.bool true) ∧ o = [rows1 A] := by
  refine FnT.ofT (n := slotsC Try.prog 5) (by kernel_rfl) ?_
  apply rl_a A z hA (pinvB_of (pinv_new z))
  case l0 => intro _; exact rl_a_r0 A z ⟨rfl, rfl⟩
  case l1 =>
    intro hf
    rw [rowsOf1_rows] at hf
    have hf : few1B A = true := by simpa using hf
    have hI := pinv_new z
    obtain ⟨lA, bA⟩ := few1_lenP hf
    refine TriL.nilObj 2 1 9 (s := 1) (c := [.int .i64 (newK z), .slice none 0 0]) (by kernel_rfl) rfl rfl (by rfl) (by rfl : _ = rlI A (ringK (newK z), newK z, [], 0)) ?_
    refine TriL.blockAt 8 0 (by kernel_rfl) ?_
    refine TriL.loopAt (rlI A) (fun s => (A.length - s.2.2.2).toNat) (fun s => PInv s.1 s.2.1 s.2.2.1 ∧ 0 ≤ s.2.2.2 ∧ s.2.2.2 ≤ A.length) (ringK (newK z), newK z, [], 0) (by kernel_rfl) ⟨hI, Int.le_refl 0, Int.natCast_nonneg _⟩ ?_
    clear hI
    rintro ⟨D, c, L, j⟩ ⟨hI, h1, h2⟩
    dsimp only at hI h1 h2
    have hj : IntKind.wrap IntKind.i64 (j + 1) = j + 1 := wrap_nat (by omega) (by omega)
    have hbx : (xAt A j).b.size ≤ 65536 := bA _
    obtain ⟨p1, p2, p3⟩ := pinv_after hI (xAt A j).d (bytesAt (bytesC (xAt A j).b) 0 (xAt A j).b.size)
    -- the end of a round
    have fin : ∀ (D' : RgV) (c' : Int) (L' : List ByteArray) (Q : VEx → Desc → Prop), j < A.length → PInv D' c' L' → TriL Try.prog (slotsC Try.prog 5) [rows1 A].length ((flat2 (inner (flat2 (inner (Lpenstocklaw01_RingPlays.drop 8))))).drop 3) (rlI A (D', c', L', j))
        (QL (rlI A) (fun s => (A.length - s.2.2.2).toNat) (fun s => PInv s.1 s.2.1 s.2.2.1 ∧ 0 ≤ s.2.2.2 ∧ s.2.2.2 ≤ A.length) (D, c, L, j) Q) := by
      intro D' c' L' Q hlt h
      apply rl_c A D' c' L' j
      case pl0 => simp
      case l1 =>
        refine QL.to (D', c', L', j + 1) ⟨h, by dsimp only; omega, by dsimp only; omega⟩ ?_ (by rw [← hj]; rfl)
        show (A.length - (j + 1)).toNat < (A.length - j).toNat
        omega
    apply rl_b A D c L j hA (pinvB_of hI) h1
    case n0 =>
      intro _
      have e1 := pinvB_of hI
      have hbx' := Nat.ble_eq_true_of_le hbx
      unfold xAt at hbx'
      simp only [map_toStrV, isStrs, e1, bytesB_all, strsC_length, Nat.beq_refl, hbx', Bool.and_self]
    case pl0 => simp
    case n1 =>
      intro _ _
      simp only [map_toStrV, isStrs, strsC_length, Nat.beq_refl, Bool.and_self, Bool.and_true]
      exact pinvB_of p1
    case l2 =>
      intro hlt _
      exact fin _ _ _ _ (of_decide_eq_true hlt) p1
    case n3 =>
      intro _ _ h4
      have := pinvB_of p1
      rw [p2 h4] at this
      exact this
    case l4 =>
      intro hlt _ h4
      refine TriL.nilObj 2 1 9 (s := 1) (c := [.int .i64 (capA c (xAt A j).d), .slice none 0 0]) (by kernel_rfl) rfl rfl (by rfl) (by rfl : _ = rlI A (afterR D (xAt A j).d (bytesAt (bytesC (xAt A j).b) 0 (xAt A j).b.size), capA c (xAt A j).d, [], j)) ?_
      rw [p2 h4] at p1
      exact fin _ _ _ _ (of_decide_eq_true hlt) p1
    case n5 =>
      intro _ h3 h4
      simp only [map_toStrV, isStrs, strsC_length, Nat.beq_refl, Bool.and_self, Bool.and_true]
      have := pinvB_of p1
      rw [p3 h4 h3] at this
      exact this
    case l7 =>
      intro hlt h3 h4
      rw [p3 h4 h3] at p1
      have e : rl_b_d2 A D c L j = rlI A (afterR D (xAt A j).d (bytesAt (bytesC (xAt A j).b) 0 (xAt A j).b.size), capA c (xAt A j).d, L, j) := by
        unfold rl_b_d2
        rw [map_toStrV]
        rfl
      rw [e]
      exact fin _ _ _ _ (of_decide_eq_true hlt) p1
    case l8 =>
      intro _
      repeat (first | with_reducible refine QL.ret ?_ | with_reducible refine QL.exit ?_ | with_reducible refine QB.ret ?_ | with_reducible refine QB.hit ?_ | with_reducible refine QB.normal ?_ | with_reducible refine QB.miss (by rfl) ?_)
      exact rl_z A (rl_z_r0 A ⟨rfl, rfl⟩)
end Go.Proofs.Ytgdpahojinknmaa
