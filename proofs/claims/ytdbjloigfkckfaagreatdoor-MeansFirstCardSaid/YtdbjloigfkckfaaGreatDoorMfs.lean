/- What is said of means.First and of the document's First, to callers. -/
import Derived.Test.YtdbjloigfkckfaaGreatDoorMfr
import Derived.Test.YtdbjloigfkckfaaGreatDoorJoin
namespace Go.Proofs.YtdbjloigfkckfaaGreatDoor
open Go Vm Go.RowKit
set_option linter.unusedVariables false
set_option linter.unusedSimpArgs false
set_option maxRecDepth 100000

theorem idxS_neg {l : List Stm} (h : idxS l < 0) : firS l = zS := by
  unfold idxS at h
  split at h
  · omega
  · rename_i e
    rw [List.findIdx?_eq_none_iff] at e
    unfold firS
    rw [List.find?_eq_none.2 fun x hx => by rw [e x hx]; simp]
theorem idxS_pos {l : List Stm} (h : ¬ idxS l < 0) : (idxS l).toNat < l.length ∧ firS l = l.getD (idxS l).toNat (Stm.mk ByteArray.empty false 0 0 0) := by
  unfold idxS at h ⊢
  split at h
  · rename_i i e
    rw [List.findIdx?_eq_some_iff_getElem] at e
    obtain ⟨hj, h2, h3⟩ := e
    have ht : ((i : Nat) : Int).toNat = i := by omega
    rw [ht]
    refine ⟨hj, ?_⟩
    rw [getD_S hj]
    have : l.find? (fun x => x.c != 0) = some l[i] := by
      rw [List.find?_eq_some_iff_getElem]
      refine ⟨h2, i, hj, rfl, fun k hk => ?_⟩
      have := h3 k hk
      simpa using this
    unfold firS
    rw [this]
  · simp at h
theorem mfs_fn (l : List Stm) (hl : l.length ≤ 1000) : FnT Tryz.prog 6 [.slice (some ⟨0, 0, none⟩) l.length l.length] [rowsS l] fun r o => r = .ret (fltV (firS l)) ∧ o = [rowsS l] := by
  refine FnT.ofT (n := slotsC Tryz.prog 6) (by kernel_rfl) ?_
  apply mfs l
  case n0 =>
    rw [rowsOfS_rows, isRowsS_rows]
    simp
    omega
  case l1 =>
    intro g
    rw [rowsOfS_rows] at g
    have g := of_decide_eq_true g
    exact mfs_r0 l ⟨by rw [idxS_neg g]; rfl, rfl⟩
  case n2 =>
    intro g
    rw [rowsOfS_rows] at g ⊢
    have g := of_decide_eq_false g
    simp; omega
  case n3 =>
    intro g
    rw [rowsOfS_rows] at g ⊢
    have g := of_decide_eq_false g
    have := (idxS_pos g).1
    simp [Nat.blt, Nat.ble_eq]; omega
  case l4 =>
    intro g
    rw [rowsOfS_rows] at g
    have g := of_decide_eq_false g
    exact mfs_r1 l ⟨by rw [(idxS_pos g).2, rowsOfS_rows], rfl⟩
noncomputable def gFi (a : List Value) (o : List VObj) : Option (Bool × CRes × List VObj) := match a, o with
  | [.slice (some ⟨0, 0, none⟩) n m], [o] =>
      some (isRowsS o && (Nat.beq n (rowsOfS o).length && (Nat.beq m (rowsOfS o).length && Nat.ble (rowsOfS o).length 1000)), .ret (fltV (firS (rowsOfS o))), [o])
  | _, _ => none
theorem gFi_ok {f : FuncId} (hf : ∀ l : List Stm, l.length ≤ 1000 → FnT Tryz.prog f [.slice (some ⟨0, 0, none⟩) l.length l.length] [rowsS l] fun r o => r = .ret (fltV (firS l)) ∧ o = [rowsS l]) : FnOk Tryz.prog f (Sum.of gFi) := FnOk.of fun a o r o' h => by
  unfold gFi at h
  split at h
  · rename_i n m o
    simp only [Option.some.injEq, Prod.mk.injEq, Bool.and_eq_true, beq_t, ble_t] at h
    obtain ⟨⟨h1, rfl, rfl, h4⟩, rfl, rfl⟩ := h
    have h1 : o = rowsS (rowsOfS o) := @of_decide_eq_true (o = rowsS (rowsOfS o)) (Classical.propDecidable _) h1
    have := hf (rowsOfS o) h4
    rw [← h1] at this
    exact this
  · cases h
theorem mfs_ok : FnOk Tryz.prog 6 (Sum.of gFi) := gFi_ok mfs_fn
theorem sr_ok : FnOk Tryz.prog 7 (Sum.of gFi) := gFi_ok sr_fn
end Go.Proofs.YtdbjloigfkckfaaGreatDoor
