/- DuctValues answers true. -/
import Derived.Test.YtgdpahojinknmaaDvl
namespace Go.Proofs.Ytgdpahojinknmaa
open Go Vm Go.RowKit
set_option linter.unusedVariables false
set_option linter.unusedSimpArgs false
set_option maxRecDepth 100000

@[simp] theorem rows22_fold (l : List Act22) : (VObj.rows l.length 5 fun i => act22 (l[i]?.getD ⟨0, ByteArray.empty, 0, 0, 0⟩)) = rows22 l := by simp [rows22]
theorem newE_or (c : Int) : newE c = 0 ∨ newE c = 16 := by
  unfold newE
  refine bif_of (C := fun x => x = 0 ∨ x = 16) _ ?_ ?_ <;> intro h
  · exact .inr rfl
  · refine bif_of (C := fun x => x = 0 ∨ x = 16) _ ?_ ?_ <;> intro h
    · exact .inr rfl
    · exact .inl rfl

theorem few22_len {l : List Act22} (h : few22B l = true) : l.length ≤ 500 := by
  unfold few22B at h
  simp at h
  exact h.1

def xAt (A : List Act22) (j : Int) : Act22 := A.getD j.toNat ⟨0, ByteArray.empty, 0, 0, 0⟩
theorem ductValues_fn (A B : List Act22) (c : Int) (hA : small22 A) (hB : small22 B) :
    FnT Try.prog 6 [.int .i64 c, .slice (some ⟨0, 0, none⟩) A.length A.length, .slice (some ⟨1, 0, none⟩) B.length B.length] [rows22 A, rows22 B] fun r o => r = .ret (.bool true) ∧ o = [rows22 A, rows22 B] := by
  refine FnT.ofT (n := slotsC Try.prog 6) (by kernel_rfl) ?_
  apply dv_a A B c hA hB
  case n0 => simp [isRows22_rows hA]
  case l1 => intros; exact dv_a_r0 A B c hA hB ⟨rfl, rfl⟩
  case l2 => intros; exact dv_a_r1 A B c hA hB ⟨rfl, rfl⟩
  case l3 => intro _ h1 h2; exfalso; rcases newE_or c with h | h <;> simp [h] at h1 h2
  case n4 => intros; simp [isRows22_rows hB]
  case l5 => intros; exact dv_a_r3 A B c hA hB ⟨rfl, rfl⟩
  case l6 => intros; exact dv_a_r4 A B c hA hB ⟨rfl, rfl⟩
  case l7 => intro _ _ h1 h2; exfalso; rcases newE_or c with h | h <;> simp [h] at h1 h2
  case l8 => intros; exact dv_a_r6 A B c hA hB ⟨rfl, rfl⟩
  case l9 => intro _ _ h1 h2; exfalso; rcases newE_or c with h | h <;> simp [h] at h1 h2
  intro fA fB _
  rw [rowsOf22_rows] at fA fB
  have lA := few22_len (by simpa using fA)
  have lB := few22_len (by simpa using fB)
  refine TriL.blockAt 5 0 (by kernel_rfl) ?_
  refine TriL.loopAt (fun s : DuctV × Int => ⟨[(1, .slice (some ⟨0, 0, none⟩) A.length A.length), (2, .slice (some ⟨1, 0, none⟩) B.length B.length), (7, .pointer (some ⟨2, 0, none⟩)), (9, .int .i64 s.2)], [rows22 A, rows22 B, .cells (ductVC s.1) 58 false]⟩)
    (fun s => (A.length - s.2).toNat) (fun s => okD s.1 = true ∧ 0 ≤ s.2 ∧ s.2 ≤ A.length) (newD c, 0) (by kernel_rfl) ⟨okD_new c, Int.le_refl 0, Int.natCast_nonneg _⟩ ?_
  rintro ⟨D, j⟩ ⟨h0, h1, h2⟩
  dsimp only at h0 h1 h2
  have hj : IntKind.wrap IntKind.i64 (j + 1) = j + 1 := wrap_nat (by omega) (by omega)
  apply dv_b A B D j h0 h1
  case n0 => intros; simp [h0, isBytes_all]
  case l1 =>
    intro h3
    have h3 := of_decide_eq_true h3
    refine QL.to (afterD D (xAt A j).d (bytesAt (bytesC (xAt A j).b) 0 (xAt A j).b.size) (xAt A j).c (xAt A j).s (xAt A j).i, j + 1) ⟨okD_after h0 _ _ _ _ _, ?_, ?_⟩ ?_ (by rw [← hj]; rfl) <;> dsimp only <;> omega
  intro h3
  repeat (first | with_reducible refine QL.ret ?_ | with_reducible refine QL.exit ?_ | with_reducible refine QB.ret ?_ | with_reducible refine QB.hit ?_ | with_reducible refine QB.normal ?_ | with_reducible refine QB.miss (by rfl) ?_)
  apply dv_c A B D h0
  case n0 => exact h0
  try case pl0 => simp
  rw [List.drop_drop]
  refine TriL.blockAt 9 2 (by kernel_rfl) ?_
  refine TriL.loopAt (fun s : DuctV × Int => ⟨[(2, .slice (some ⟨1, 0, none⟩) B.length B.length), (7, .pointer (some ⟨2, 0, none⟩)), (10, .slice (some ⟨3, 0, none⟩) 20 20), (11, .pointer (some ⟨4, 0, none⟩)), (12, .int .i64 s.2)],
      [rows22 A, rows22 B, .cells (ductVC D) 58 false, .cells (strsC (tolN 10 D)) 9 false, .cells (ductVC s.1) 58 false]⟩)
    (fun s => (B.length - s.2).toNat) (fun s => okD s.1 = true ∧ 0 ≤ s.2 ∧ s.2 ≤ B.length) (D, 0) (by kernel_rfl) ⟨h0, Int.le_refl 0, Int.natCast_nonneg _⟩ ?_
  rintro ⟨C, j⟩ ⟨k0, h1, h2⟩
  dsimp only at k0 h1 h2
  have hj : IntKind.wrap IntKind.i64 (j + 1) = j + 1 := wrap_nat (by omega) (by omega)
  apply dv_d A B D C (tolN 10 D) j k0 h1
  case n0 => intros; simp [k0, isBytes_all]
  case pl0 => simp
  case l2 =>
    intro h3
    have h3 := of_decide_eq_true h3
    refine QL.to (afterD C (xAt B j).d (bytesAt (bytesC (xAt B j).b) 0 (xAt B j).b.size) (xAt B j).c (xAt B j).s (xAt B j).i, j + 1) ⟨okD_after k0 _ _ _ _ _, ?_, ?_⟩ ?_ (by rw [← hj]; rfl) <;> dsimp only <;> omega
  intro h3
  repeat (first | with_reducible refine QL.ret ?_ | with_reducible refine QL.exit ?_ | with_reducible refine QB.ret ?_ | with_reducible refine QB.hit ?_ | with_reducible refine QB.normal ?_ | with_reducible refine QB.miss (by rfl) ?_)
  apply dv_e A B D (tolN 10 D) h0
  case n0 => exact h0
  try case pl0 => simp
  try case pl1 => simp
  rw [List.drop_drop]
  have hl : (tolN 10 D).length = 20 := tolN_len 10 D
  refine TriL.blockAt 14 4 (by kernel_rfl) ?_
  refine TriL.loopAt (fun s : Int => ⟨[(10, .slice (some ⟨2, 0, none⟩) 20 20), (13, .slice (some ⟨3, 0, none⟩) 20 20), (14, .int .i64 s)], [rows22 A, rows22 B, .cells (strsC (tolN 10 D)) 9 false, .cells (strsC (tolN 10 D)) 9 false]⟩)
    (fun s => (20 - s).toNat) (fun s => 0 ≤ s ∧ s ≤ 20) 0 (by kernel_rfl) ⟨Int.le_refl 0, by omega⟩ ?_
  rintro j ⟨h1, h2⟩
  have hj : IntKind.wrap IntKind.i64 (j + 1) = j + 1 := wrap_nat (by omega) (by omega)
  apply dv_f A B (tolN 10 D) (tolN 10 D) j h1 hl hl
  case n0 => intro h3; have h3 := of_decide_eq_true h3; exact isStrAt_strs (by omega)
  case n1 => intro h3; have h3 := of_decide_eq_true h3; exact isStrAt_strs (by omega)
  case l2 => intro _ h3; simp at h3
  case pl0 => simp
  case pl1 => simp
  case l5 =>
    intro h3 _
    have h3 := of_decide_eq_true h3
    refine QL.to (j + 1) ⟨?_, ?_⟩ ?_ (by rw [dv_f_d1, hj]) <;> omega
  intro h3
  repeat (first | with_reducible refine QL.ret ?_ | with_reducible refine QL.exit ?_ | with_reducible refine QB.ret ?_ | with_reducible refine QB.hit ?_ | with_reducible refine QB.normal ?_ | with_reducible refine QB.miss (by rfl) ?_)
  exact dv_g A B (dv_g_r0 A B ⟨rfl, rfl⟩)
end Go.Proofs.Ytgdpahojinknmaa
