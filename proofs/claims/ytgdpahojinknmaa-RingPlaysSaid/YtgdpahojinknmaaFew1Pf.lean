/- few of law 1. -/
import Derived.Test.YtgdpahojinknmaaFew1
import Derived.Test.YtgdpahojinknmaaVd
namespace Go.Proofs.Ytgdpahojinknmaa
open Go Vm Go.RowKit
set_option linter.unusedVariables false
set_option linter.unusedSimpArgs false
set_option maxRecDepth 100000

def small1 (l : List Act1) : Prop := ∀ x ∈ l, x.b.size ≤ 140737488351232
def sum1 (l : List Act1) : Nat := (l.map fun x => x.b.size).sum
def few1B (l : List Act1) : Bool := decide (l.length ≤ 500) && decide (sum1 l ≤ 65536)
theorem sum1_take (l : List Act1) (j : Nat) (h : j < l.length) : sum1 (l.take (j + 1)) = sum1 (l.take j) + (l.getD j ⟨0, ByteArray.empty⟩).b.size := by
  unfold sum1
  rw [List.take_succ_eq_append_getElem h, List.map_append, List.sum_append]
  simp [List.getD, h]
theorem sum1_le (l : List Act1) (j : Nat) : sum1 (l.take j) ≤ sum1 l := by
  unfold sum1
  conv => rhs; rw [← List.take_append_drop j l, List.map_append, List.sum_append]
  omega
theorem small1_at {l : List Act1} (hs : small1 l) (j : Nat) : (l.getD j ⟨0, ByteArray.empty⟩).b.size ≤ 140737488351232 := by
  by_cases h : j < l.length
  · simp only [List.getD, List.getElem?_eq_getElem h, Option.getD_some]; exact hs _ (List.getElem_mem h)
  · simp [List.getD, h]

theorem few1_fn (l : List Act1) (hs : small1 l) : FnT Try.prog 11 [.slice (some ⟨0, 0, none⟩) l.length l.length] [rows1 l] fun r o => r = .ret (.bool (few1B l)) ∧ o = [rows1 l] := by
  refine FnT.ofT (n := slotsC Try.prog 11) (by kernel_rfl) ?_
  refine few1_a l ?_ ?_
  · intro h
    refine few1_a_r0 l ⟨?_, rfl⟩
    have : ¬ l.length ≤ 500 := by simp at h; omega
    simp [few1B, this]
  · intro h
    refine TriL.blockAt 5 0 (by kernel_rfl) ?_
    have h500 : ¬ ((l.length : Int) > 500) := of_decide_eq_false h
    refine TriL.loopAt (fun s : Int × Int => ⟨[(0, .slice (some ⟨0, 0, none⟩) l.length l.length), (3, .int .i64 s.2), (4, .int .i64 s.1)], [rows1 l]⟩) (fun s => (l.length - s.1).toNat)
      (fun s => 0 ≤ s.1 ∧ s.1 ≤ l.length ∧ s.2 = sum1 (l.take s.1.toNat) ∧ s.2 ≤ 65536) (0, 0) (by kernel_rfl) ⟨by decide, Int.natCast_nonneg _, rfl, by decide⟩ ?_
    rintro ⟨j, n⟩ ⟨h0, h1, h2, h3⟩
    dsimp only at h0 h1 h2 h3
    have hsz := small1_at hs j.toNat
    have hw : IntKind.wrap IntKind.i64 (n + ((l.getD j.toNat ⟨0, ByteArray.empty⟩).b.size : Int)) = n + ((l.getD j.toNat ⟨0, ByteArray.empty⟩).b.size : Int) := wrap_nat (by omega) (by omega)
    have hj : IntKind.wrap IntKind.i64 (j + 1) = j + 1 := wrap_nat (by omega) (by omega)
    refine few1_b l j n ?_ ?_ ?_ ?_ ?_
    · intro h5
      exact decide_eq_true h0
    · intro h5
      have h5 := of_decide_eq_true h5
      exact blt_iff.2 (by omega)
    · intro h5 h6
      have h5 := of_decide_eq_true h5
      repeat (first | with_reducible refine QL.ret ?_ | with_reducible refine QL.exit ?_ | with_reducible refine QB.ret ?_ | with_reducible refine QB.hit ?_ | with_reducible refine QB.normal ?_ | with_reducible refine QB.miss (by rfl) ?_)
      refine few1_b_r0 l j n ?_
      refine ⟨?_, rfl⟩
      have h7 := sum1_take l j.toNat (by omega)
      have h8 := sum1_le l (j.toNat + 1)
      rw [hw] at h6
      have h6 := of_decide_eq_true h6
      have : ¬ sum1 l ≤ 65536 := by omega
      simp [few1B, this]
    · intro h5 h6
      have h5 := of_decide_eq_true h5
      have h7 := sum1_take l j.toNat (by omega)
      rw [hw] at h6
      have h6 := of_decide_eq_false h6
      refine QL.to (j + 1, n + ((l.getD j.toNat ⟨0, ByteArray.empty⟩).b.size : Int)) ⟨?_, ?_, ?_, ?_⟩ ?_ (by simp only [few1_b_d1, hj, hw]) <;> dsimp only
      · omega
      · omega
      · rw [show (j + 1).toNat = j.toNat + 1 by omega]; omega
      · omega
      · omega
    · intro h5
      have h5 := of_decide_eq_false h5
      have e : j.toNat = l.length := by omega
      repeat (first | with_reducible refine QL.ret ?_ | with_reducible refine QL.exit ?_ | with_reducible refine QB.ret ?_ | with_reducible refine QB.hit ?_ | with_reducible refine QB.normal ?_ | with_reducible refine QB.miss (by rfl) ?_)
      refine few1_c l (few1_c_r0 l ?_)
      refine ⟨?_, rfl⟩
      rw [e, List.take_length] at h2
      have ha : l.length ≤ 500 := by omega
      have hb : sum1 l ≤ 65536 := by omega
      simp [few1B, ha, hb]
end Go.Proofs.Ytgdpahojinknmaa
