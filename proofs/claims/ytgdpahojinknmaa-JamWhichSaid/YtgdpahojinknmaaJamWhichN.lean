/- JamWhich answers true. -/
import Derived.Test.YtgdpahojinknmaaJmz
namespace Go.Proofs.Ytgdpahojinknmaa
open Go Vm Go.RowKit
set_option linter.unusedVariables false
set_option linter.unusedSimpArgs false
set_option maxRecDepth 100000

def jcI (C W : List Int) (i : Int) : Desc := ⟨[(0, .slice (some ⟨0, 0, none⟩) C.length C.length), (1, .slice (some ⟨1, 0, none⟩) W.length W.length), (5, .slice (some ⟨2, 0, none⟩) C.length C.length), (6, .slice (some ⟨3, 0, none⟩) W.length W.length), (11, .int .i64 i)],
  [rowR C, rowR W, rowI C, rowI W]⟩
def jeI (C W : List Int) (i : Int) : Desc := ⟨[(1, .slice (some ⟨1, 0, none⟩) W.length W.length), (6, .slice (some ⟨2, 0, none⟩) W.length W.length), (12, .int .i64 i)], [rowR C, rowR W, rowI W]⟩
theorem jamWhich_fn (C W : List Int) : FnT Try.prog 9 [.slice (some ⟨0, 0, none⟩) C.length C.length, .slice (some ⟨1, 0, none⟩) W.length W.length] [rowR C, rowR W]
    fun r o => r = .ret (.bool true) ∧ o = [rowR C, rowR W] := by
  refine FnT.ofT (n := slotsC Try.prog 9) (by kernel_rfl) ?_
  apply jl_a C W
  case pl0 => simp
  case pl1 => simp
  case l2 => intro _; exact jl_a_r0 C W (by simp) (by simp) ⟨rfl, rfl⟩
  case l3 => intro _ _; exact jl_a_r1 C W (by simp) (by simp) ⟨rfl, rfl⟩
  intro g1 g2
  have g1 := of_decide_eq_false g1
  have g2 := of_decide_eq_false g2
  obtain ⟨e1, e2⟩ := wh_ref C W
  have tC : ([] : List Value) ++ List.take (C.length * 1) (intsC C) = intsC C := by rw [List.nil_append, Nat.mul_one, List.take_of_length_le (by rw [intsC_length]; exact Nat.le_refl _)]
  have tW : ([] : List Value) ++ List.take (W.length * 1) (intsC W) = intsC W := by rw [List.nil_append, Nat.mul_one, List.take_of_length_le (by rw [intsC_length]; exact Nat.le_refl _)]
  apply jl_b C W (by omega) (by omega) (by simp [e1]) (by simp [e2])
  case n0 => exact one_of_plain (pl_take (pl_ints _) _)
  case n1 => exact one_of_plain (pl_take (pl_ints _) _)
  case n2 => rw [tC, tW]; simp; omega
  case pl0 => simp
  case pl1 => simp
  have hs : jl_b_d0 C W = jcI C W 0 := by
    unfold jl_b_d0 jcI
    rw [tC, tW, Nat.zero_add, Nat.zero_add]
  rw [hs, List.drop_drop]
  refine TriL.blockAt 9 0 (by kernel_rfl) ?_
  refine TriL.loopAt (jcI C W) (fun i => (C.length - i).toNat) (fun i => 0 ≤ i ∧ i ≤ C.length) 0 (by kernel_rfl) ⟨Int.le_refl 0, by omega⟩ ?_
  rintro i ⟨h0, h1⟩
  apply jl_c C W i h0
  case n0 => intro g; have g := of_decide_eq_true g; exact isWordI (by omega)
  case pl0 => simp
  case pl1 => simp
  case l3 =>
    intro g
    have g := of_decide_eq_true g
    have hw : IntKind.wrap IntKind.i64 (i + 1) = i + 1 := wrap_nat (by omega) (by omega)
    exact QL.to (i + 1) ⟨by omega, by omega⟩ (by omega) (by unfold jl_c_d0; rw [hw]; rfl)
  case l4 =>
    intro g
    repeat (first | with_reducible refine QL.ret ?_ | with_reducible refine QL.exit ?_ | with_reducible refine QB.ret ?_ | with_reducible refine QB.hit ?_ | with_reducible refine QB.normal ?_ | with_reducible refine QB.miss (by rfl) ?_)
    apply jl_d C W
    case pl0 => simp
    case pl1 => simp
    rw [List.drop_drop]
    refine TriL.blockAt 11 2 (by kernel_rfl) ?_
    refine TriL.loopAt (jeI C W) (fun i => (W.length - i).toNat) (fun i => 0 ≤ i ∧ i ≤ W.length) 0 (by kernel_rfl) ⟨Int.le_refl 0, by omega⟩ ?_
    rintro i ⟨h0, h1⟩
    apply jl_e C W i h0
    case n0 => intro g; have g := of_decide_eq_true g; exact isWordI (by omega)
    case pl0 => simp
    case pl1 => simp
    case l3 =>
      intro g
      have g := of_decide_eq_true g
      have hw : IntKind.wrap IntKind.i64 (i + 1) = i + 1 := wrap_nat (by omega) (by omega)
      exact QL.to (i + 1) ⟨by omega, by omega⟩ (by omega) (by unfold jl_e_d0; rw [hw]; rfl)
    case l4 =>
      intro g
      repeat (first | with_reducible refine QL.ret ?_ | with_reducible refine QL.exit ?_ | with_reducible refine QB.ret ?_ | with_reducible refine QB.hit ?_ | with_reducible refine QB.normal ?_ | with_reducible refine QB.miss (by rfl) ?_)
      exact jl_z C W (by simp) (by simp) (jl_z_r0 C W (by simp) (by simp) ⟨rfl, rfl⟩)
end Go.Proofs.Ytgdpahojinknmaa
